/- Sn, Lx, Lu, Ja, Jb, Jc, ImagePartsLaw, in one text. Conditions: none but the statement's own. -/
import Derived.Test.YtpgjploaliefdaaSe
import Derived.Test.YtpgjploaliefdaaGr
import Derived.WalkKit
import Derived.ProofKit
import Derived.OpenShut
import Derived.Lib.SmallJoins
import Derived.Deep.Slices
import Derived.Test.YtpgjploaliefdaaSb
import Derived.Test.YtpgjploaliefdaaIhp
import Derived.Test.YtpgjploaliefdaaIh
import Derived.Test.YtpgjploaliefdaaRows
import Derived.ShutString
import Derived.ChangeOld
import Derived.Below
namespace Go.Proofs.Ytpgjploaliefdaa.ob
open Go.RowKit Go.Proofs.Ytpgjploaliefdaa.hd
set_option linter.unusedVariables false
set_option linter.unusedSimpArgs false
/-- What Words makes of one raw object. -/
structure Pc where
  h : Int
  s : Nat
  p : Nat
  g : Bool
  ys : List Int
def wordsOf (l : List Pc) : List Int := l.flatMap fun c => c.h :: c.ys
def shapesOf (l : List Pc) : List (Int × Int) := (l.filter fun c => c.g).map fun c => ((c.s : Int), (c.p : Int))
theorem un_pack {s p : Nat} (hs : s ≤ 255) (hp : p ≤ s) : unOk (packV s p) = true ∧ unS (packV s p) = s ∧ unP (packV s p) = p := by
  have hr : rightB s p = true := rightB_mk (by omega)
  have he : packV s p = 2 * s + 131072 * p := by simp [packV, hr]
  have h1 : (2 * (s : Int) + 131072 * p) / 2 % 65536 = s := by omega
  have h2 : (2 * (s : Int) + 131072 * p) / 131072 = p := by omega
  have ho : unOk (packV s p) = true := by
    rw [he]; unfold unOk; rw [h1, h2, hr]; simp; omega
  refine ⟨ho, ?_, ?_⟩
  · unfold unS; rw [if_pos ho, he, h1]
  · unfold unP; rw [if_pos ho, he, h2]
structure PcGood (c : Pc) : Prop where
  len : c.ys.length = c.s
  s6 : c.s ≤ 255
  ps : c.p ≤ c.s
  small : Small c.ys
  new : c.g = false → c.h = packV c.s c.p ∧ ptrsOk c.ys c.p
  gone : c.g = true → ∃ t : Int, 1 ≤ t ∧ t < 9223372036854775808 ∧ c.h = 2 * t + 1 ∧ c.ys = List.replicate c.s 0
def Good (l : List Pc) : Prop := ∀ c ∈ l, PcGood c
/-- The object of a piece that lies at a place. -/
def obOf (pos : Nat) (c : Pc) : Ob := ⟨pos, c.s, c.p, c.g, if c.g then adV c.h else 0⟩
def obsAt (pos : Nat) : List Pc → List Ob
  | [] => []
  | c :: l => obOf pos c :: obsAt (pos + 1 + c.s) l
theorem wordsOf_cons (c : Pc) (l : List Pc) : wordsOf (c :: l) = c.h :: (c.ys ++ wordsOf l) := by simp [wordsOf]
theorem wordsOf_app (l m : List Pc) : wordsOf (l ++ m) = wordsOf l ++ wordsOf m := by simp [wordsOf]
theorem shapesOf_app (l m : List Pc) : shapesOf (l ++ m) = shapesOf l ++ shapesOf m := by simp [shapesOf]
theorem obsAt_app (l m : List Pc) (hl : Good l) : ∀ pos, obsAt pos (l ++ m) = obsAt pos l ++ obsAt (pos + (wordsOf l).length) m := by
  induction l with
  | nil => intro pos; simp [obsAt, wordsOf]
  | cons c l ih =>
    intro pos
    have hc := (hl c List.mem_cons_self).len
    simp only [List.cons_append, obsAt, wordsOf_cons, List.length_cons, List.length_append, hc]
    rw [ih (fun d hd => hl d (List.mem_cons_of_mem _ hd))]
    rw [show pos + 1 + c.s + (wordsOf l).length = pos + (c.s + (wordsOf l).length + 1) from by omega]
theorem obsAt_len (l : List Pc) : ∀ pos, (obsAt pos l).length = l.length := by
  induction l with
  | nil => intro pos; rfl
  | cons c l ih => intro pos; simp [obsAt, ih]
/-- What lies in zs from pos on. -/
def LiesAt (zs : List Int) (pos : Nat) (ws : List Int) : Prop := ∀ j, j < ws.length → zs.getD (pos + j) 0 = ws.getD j 0
theorem lies_mid (a b c : List Int) : LiesAt (a ++ b ++ c) a.length b := by
  intro j hj
  simp only [List.getD]
  rw [List.getElem?_append_left (by simp; omega), List.getElem?_append_right (by omega)]
  congr 2
  omega
theorem lies_head {zs : List Int} {pos : Nat} {c : Pc} {l : List Pc} (h : LiesAt zs pos (wordsOf (c :: l))) : zs.getD pos 0 = c.h := by
  have := h 0 (by rw [wordsOf_cons]; simp)
  rw [wordsOf_cons] at this
  simpa using this
theorem lies_slot {zs : List Int} {pos : Nat} {c : Pc} {l : List Pc} (h : LiesAt zs pos (wordsOf (c :: l))) {i : Nat} (hi : i < c.ys.length) : zs.getD (pos + 1 + i) 0 = c.ys.getD i 0 := by
  have := h (i + 1) (by rw [wordsOf_cons]; simp; omega)
  rw [wordsOf_cons] at this
  rw [show pos + 1 + i = pos + (i + 1) from by omega, this]
  simp only [List.getD, List.getElem?_cons_succ]
  rw [List.getElem?_append_left hi]
theorem lies_tail {zs : List Int} {pos : Nat} {c : Pc} {l : List Pc} (hc : c.ys.length = c.s) (h : LiesAt zs pos (wordsOf (c :: l))) : LiesAt zs (pos + 1 + c.s) (wordsOf l) := by
  intro j hj
  have := h (1 + c.s + j) (by rw [wordsOf_cons]; simp; omega)
  rw [wordsOf_cons] at this
  rw [show pos + 1 + c.s + j = pos + (1 + c.s + j) from by omega, this]
  simp only [List.getD]
  rw [show 1 + c.s + j = (c.s + j) + 1 from by omega, List.getElem?_cons_succ, List.getElem?_append_right (by omega)]
  congr 2
  omega
theorem bgN_new {c : Pc} (hc : PcGood c) (hg : c.g = false) (k pos : Nat) : bgN k pos c.h = some (obOf pos c, k) := by
  obtain ⟨h1, h2, h3⟩ := un_pack (s := c.s) (p := c.p) (by have := hc.s6; omega) hc.ps
  unfold bgN obOf
  rw [(hc.new hg).1, if_pos h1, h2, h3, hg]
  rfl
theorem pack_even {s p : Nat} (hs : s ≤ 255) (hp : p ≤ s) : packV s p % 2 = 0 := by
  have hr : rightB s p = true := rightB_mk (by omega)
  have he : packV s p = 2 * s + 131072 * p := by simp [packV, hr]
  omega
theorem adE_odd {t : Int} (h : 1 ≤ t) : adE (2 * t + 1) = 0 ∧ adV (2 * t + 1) = t := by
  unfold adE adV
  rw [if_neg (by omega), if_neg (by omega), if_neg (by omega)]
  exact ⟨rfl, by omega⟩
theorem adE_ev {x : Int} (h : x % 2 = 0) : adE x ≠ 0 := by
  unfold adE
  split
  · decide
  · rw [if_pos (.inl h)]; decide
theorem bgO_new {c : Pc} (hc : PcGood c) (hg : c.g = false) (n : Nat) (ss : List (Int × Int)) (k pos : Nat) : bgO n ss k pos c.h = some (obOf pos c, k) := by
  have he : c.h % 2 = 0 := by rw [(hc.new hg).1]; exact pack_even (by have := hc.s6; omega) hc.ps
  unfold bgO
  rw [if_neg (adE_ev he)]
  exact bgN_new hc hg k pos
theorem bgO_gone {c : Pc} (hc : PcGood c) (hg : c.g = true) {n : Nat} {ss : List (Int × Int)} {k : Nat} (pos : Nat) (hk : k < n) (hs : ss.getD k (0, 0) = ((c.s : Int), (c.p : Int))) : bgO n ss k pos c.h = some (obOf pos c, k + 1) := by
  obtain ⟨t, h1, h2, h3, h4⟩ := hc.gone hg
  have hr : rightB c.s c.p = true := rightB_mk (by have := hc.s6; have := hc.ps; omega)
  unfold bgO obOf
  rw [h3, if_pos (adE_odd h1).1, hs, if_pos ⟨hk, hr⟩, hg]
  rfl
theorem slots_good {c : Pc} (hc : PcGood c) {zs : List Int} {pos : Nat} {l : List Pc} (h : LiesAt zs pos (wordsOf (c :: l))) : slotsB (obOf pos c) zs c.s = true := by
  rw [slotsB_iff]
  intro i hi
  have h1 := lies_slot h (i := i) (by rw [hc.len]; exact hi)
  have e : (obOf pos c).pos.toNat + 1 + i = pos + 1 + i := by simp [obOf]
  rw [e, h1]
  rcases Bool.eq_false_or_eq_true c.g with hg | hg
  · obtain ⟨t, _, _, _, h4⟩ := hc.gone hg
    have h5 : c.ys.getD i 0 = 0 := by
      rw [h4]
      simp only [List.getD, List.getElem?_replicate]
      split <;> rfl
    rw [h5]
    simp [slotOk, obOf, hg]
  · obtain ⟨_, h2⟩ := hc.new hg
    by_cases hip : i < c.p
    · rw [slotOk, h2 i hip]; simp [obOf, hg]
    · have : decide ((i : Int) < (obOf pos c).p) = false := decide_eq_false (by simp only [obOf]; omega)
      rw [slotOk, this]; simp [obOf, hg]
theorem step_good {bg : Nat → Nat → Int → Option (Ob × Nat)} {c : Pc} (hc : PcGood c) {zs : List Int} {len f k k' pos : Nat} {acc : List Ob} {l : List Pc} (h : LiesAt zs pos (wordsOf (c :: l))) (hlen : pos + 1 + c.s ≤ len) (hb : bg k pos c.h = some (obOf pos c, k')) :
    walkF bg zs len (f + 1) k pos acc = walkF bg zs len f k' (pos + 1 + c.s) (acc ++ [obOf pos c]) := by
  rw [walkF_step (by omega), lies_head h, hb]
  have hs := slots_good hc h
  have e : (obOf pos c).s.toNat = c.s := by simp [obOf]
  simp only [e]
  rw [if_neg (by omega), if_pos hs]
theorem walk_new {l : List Pc} : ∀ {zs : List Int} {len f k pos : Nat} {acc : List Ob}, Good l → (∀ c ∈ l, c.g = false) → LiesAt zs pos (wordsOf l) → pos + (wordsOf l).length ≤ len →
    walkF bgN zs len (f + l.length) k pos acc = walkF bgN zs len f k (pos + (wordsOf l).length) (acc ++ obsAt pos l) := by
  induction l with
  | nil => intro zs len f k pos acc _ _ _ _; simp [wordsOf, obsAt]
  | cons c l ih =>
    intro zs len f k pos acc hg hn hz hl
    have hc := hg c List.mem_cons_self
    have hw : (wordsOf (c :: l)).length = 1 + c.s + (wordsOf l).length := by rw [wordsOf_cons]; simp [hc.len]; omega
    rw [show f + (c :: l).length = (f + l.length) + 1 from by simp; omega]
    rw [step_good hc hz (by omega) (bgN_new hc (hn c List.mem_cons_self) k pos)]
    rw [ih (fun d hd => hg d (List.mem_cons_of_mem _ hd)) (fun d hd => hn d (List.mem_cons_of_mem _ hd)) (lies_tail hc.len hz) (by omega)]
    rw [hw]
    simp only [obsAt, List.append_assoc, List.singleton_append]
    rw [show pos + 1 + c.s + (wordsOf l).length = pos + (1 + c.s + (wordsOf l).length) from by omega]
theorem walk_old {l : List Pc} : ∀ {zs : List Int} {len f k pos n : Nat} {ss : List (Int × Int)} {acc : List Ob}, Good l → LiesAt zs pos (wordsOf l) → pos + (wordsOf l).length ≤ len → (∀ j, j < (shapesOf l).length → ss.getD (k + j) (0, 0) = (shapesOf l).getD j (0, 0)) → k + (shapesOf l).length ≤ n →
    walkF (bgO n ss) zs len (f + l.length) k pos acc = walkF (bgO n ss) zs len f (k + (shapesOf l).length) (pos + (wordsOf l).length) (acc ++ obsAt pos l) := by
  induction l with
  | nil => intro zs len f k pos n ss acc _ _ _ _ _; simp [wordsOf, obsAt, shapesOf]
  | cons c l ih =>
    intro zs len f k pos n ss acc hg hz hl hs hn
    have hc := hg c List.mem_cons_self
    have hw : (wordsOf (c :: l)).length = 1 + c.s + (wordsOf l).length := by rw [wordsOf_cons]; simp [hc.len]; omega
    rw [show f + (c :: l).length = (f + l.length) + 1 from by simp; omega]
    cases hcg : c.g with
    | false =>
      have hsh : shapesOf (c :: l) = shapesOf l := by simp [shapesOf, hcg]
      rw [hsh] at hs hn
      rw [step_good hc hz (by omega) (bgO_new hc hcg n ss k pos)]
      rw [ih (fun d hd => hg d (List.mem_cons_of_mem _ hd)) (lies_tail hc.len hz) (by omega) hs hn]
      rw [hw, hsh]
      simp only [obsAt, List.append_assoc, List.singleton_append]
      rw [show pos + 1 + c.s + (wordsOf l).length = pos + (1 + c.s + (wordsOf l).length) from by omega]
    | true =>
      have hsh : shapesOf (c :: l) = ((c.s : Int), (c.p : Int)) :: shapesOf l := by simp [shapesOf, hcg]
      rw [hsh] at hs hn
      simp only [List.length_cons] at hs hn
      have h0 := hs 0 (by omega)
      simp at h0
      rw [step_good hc hz (by omega) (bgO_gone hc hcg pos (by omega) (by simpa [List.getD] using h0))]
      rw [ih (fun d hd => hg d (List.mem_cons_of_mem _ hd)) (lies_tail hc.len hz) (by omega) (fun j hj => by
        have := hs (j + 1) (by omega)
        rw [show k + 1 + j = k + (j + 1) from by omega, this]
        simp [List.getD]) (by omega)]
      rw [hw, hsh]
      simp only [obsAt, List.append_assoc, List.singleton_append, List.length_cons]
      rw [show pos + 1 + c.s + (wordsOf l).length = pos + (1 + c.s + (wordsOf l).length) from by omega, show k + 1 + (shapesOf l).length = k + ((shapesOf l).length + 1) from by omega]
theorem len_words {l : List Pc} : l.length ≤ (wordsOf l).length := by
  induction l with
  | nil => simp
  | cons c l ih => rw [wordsOf_cons]; simp; omega
theorem new_all {l : List Pc} (hg : Good l) (hn : ∀ c ∈ l, c.g = false) : newF (wordsOf l) = .ok (obsAt 0 l) 0 := by
  unfold newF
  have hl := len_words (l := l)
  rw [show (wordsOf l).length + 1 = ((wordsOf l).length + 1 - l.length) + l.length from by omega]
  rw [walk_new hg hn (fun j hj => by simp) (by omega)]
  rw [show (wordsOf l).length + 1 - l.length = ((wordsOf l).length - l.length) + 1 from by omega]
  simp only [Nat.zero_add, List.nil_append]
  exact walkF_end (by omega)
theorem old_all {l : List Pc} (hg : Good l) (ex : List (Int × Int)) : oldF (wordsOf l) (shapesOf l ++ ex) = if ex = [] then .ok (obsAt 0 l) (shapesOf l).length else .err 3 (shapesOf l).length := by
  unfold oldF
  have hl := len_words (l := l)
  rw [show (wordsOf l).length + 1 = ((wordsOf l).length + 1 - l.length) + l.length from by omega]
  rw [walk_old hg (fun j hj => by simp) (by omega) (fun j hj => by
    simp only [List.getD, Nat.zero_add]
    rw [List.getElem?_append_left hj]) (by simp)]
  rw [show (wordsOf l).length + 1 - l.length = ((wordsOf l).length - l.length) + 1 from by omega]
  simp only [Nat.zero_add, List.nil_append]
  rw [walkF_end (by omega)]
  unfold oldRes
  by_cases h : ex = []
  · subst h; simp
  · have : 0 < ex.length := List.length_pos_iff.2 h
    simp only
    rw [if_pos (by simp; omega), if_neg h]
end Go.Proofs.Ytpgjploaliefdaa.ob

namespace Go.Proofs.Ytpgjploaliefdaa.lx
open Go.ChangeShapes Go.WideShapes Go.ChangeAt Go.RowKit Go.Joins Go.Proofs.Ytpgjploaliefdaa.gr
set_option linter.unusedVariables false
set_option linter.unusedSimpArgs false
theorem spot_of {w : World} {a : Addr} {v : Value} (h : w.cell? a = some v) : a = ⟨a.block, a.off, none⟩ := by
  obtain ⟨b, o, s⟩ := a
  cases s with
  | none => rfl
  | some s => unfold World.cell? at h; dsimp only at h; split at h <;> simp at h
theorem choose_l {α : Type} {n : Nat} {p : Nat → α → Prop} (h : ∀ i, i < n → ∃ x, p i x) : ∃ l : List α, l.length = n ∧ ∀ i x, l[i]? = some x → p i x := by
  induction n with
  | zero => exact ⟨[], rfl, fun i x hx => by simp at hx⟩
  | succ n ih =>
    obtain ⟨l, hl, hp⟩ := ih (fun i hi => h i (by omega))
    obtain ⟨x, hx⟩ := h n (by omega)
    refine ⟨l ++ [x], by simp [hl], fun i y hy => ?_⟩
    by_cases e : i < n
    · rw [List.getElem?_append_left (by omega)] at hy
      exact hp i y hy
    · rw [List.getElem?_append_right (by omega)] at hy
      by_cases e2 : i = n
      · subst e2
        rw [hl, Nat.sub_self] at hy
        simp at hy
        rw [← hy]
        exact hx
      · rw [List.getElem?_eq_none (by simp; omega)] at hy
        cases hy
section
variable {H : Type} {enc : TypeId × Value → H} {w : World} {base : Nat} {spare : Nat → Bool} {held : Bool} {P : Program}
theorem rin_arg {α : Type} {k : Nat} {en : α → List Value} {ok : α → Prop} {T E : TypeId} {r : Reach} {b0 : Nat} {v : Value} {d : DataW H} {p : List MemPlace} (hT : P.underlying T = some (.slice E)) (hC : P.cellsOf E = k) (hk0 : 0 < k)
    (hrd : ∀ (n : Nat) (cs : List Value) (y : DataW H × List MemPlace), DataW.trod enc P w base spare held n E cs = some y → ∃ x : α, cs = en x ∧ (en x).length = k ∧ ok x)
    (hv : Value.okWide P w r b0 T v) (h : DataW.Trod enc P w base spare held T v d p) : ∃ l : List α, RIn k en w v l ∧ ∀ x ∈ l, ok x := by
  obtain ⟨ad, len, cap, rfl⟩ := okWide_slice hT hv
  obtain ⟨fuel, hf⟩ := h
  rcases Go.Deep.open_slice hT hf with ⟨hcs, _⟩ | ⟨a, len', cap', m, n, D, Pl, hcs, _, hl, hm, hmm, _, hx⟩
  · simp [Value.cells] at hcs
    obtain ⟨rfl, rfl, rfl⟩ := hcs
    exact ⟨[], RIn.nil, fun x hx => by simp at hx⟩
  · simp [Value.cells] at hcs
    obtain ⟨rfl, rfl, rfl⟩ := hcs
    have hml : len ≤ m := by rw [hmm]; split <;> omega
    have key : ∀ i, i < len → ∃ x : α, (∀ j y, (en x)[j]? = some y → w.cell? ((a.add (i * k)).add j) = some y) ∧ (en x).length = k ∧ ok x := by
      intro i hi
      obtain ⟨cs', h1, h2⟩ := hx i (by omega)
      rw [hC] at h1
      obtain ⟨_, hz, hcell⟩ := World.cells?_some h1
      obtain ⟨x, rfl, hlk, hok⟩ := hrd _ _ _ h2
      refine ⟨x, fun j y hy => ?_, hlk, hok⟩
      have hj : j < (en x).length := by
        rcases Nat.lt_or_ge j (en x).length with h | h
        · exact h
        · rw [List.getElem?_eq_none h] at hy; cases hy
      rw [hcell j (by omega), hy]
    obtain ⟨l, hll, hp⟩ := choose_l key
    refine ⟨l, ?_, fun x hx => ?_⟩
    · have hspot : 0 < len → a = ⟨a.block, a.off, none⟩ ∧ a.block < w.heap.size := fun h0 => by
        have hx0 : l[0]? = some l[0] := List.getElem?_eq_getElem (by omega)
        obtain ⟨h1, h2, _⟩ := hp 0 _ hx0
        have hlt : 0 < (en l[0]).length := by omega
        have h3 := h1 0 _ (List.getElem?_eq_getElem hlt)
        rw [Nat.zero_mul] at h3
        have e0 : (a.add 0).add 0 = a := by unfold Addr.add; simp
        rw [e0] at h3
        exact ⟨spot_of h3, World.block_lt_of_cell? _ _ h3⟩
      refine RIn.mk (ad := some a) (b := a.block) (off := a.off) (cap := cap) (by rw [hll]) (fun h0 => by rw [← (hspot (by omega)).1]) (fun e => by cases e) (by omega) (by unfold maxLen at hm; omega) (fun h0 => (hspot (by omega)).2) (fun i j x y hx hy => ?_)
      have hi : i < len := by
        rcases Nat.lt_or_ge i l.length with h | h
        · omega
        · rw [List.getElem?_eq_none h] at hx; cases hx
      have h1 := (hp i x hx).1 j y hy
      have hs := (hspot (by omega)).1
      have e : (a.add (i * k)).add j = ⟨a.block, a.off + i * k + j, none⟩ := by
        obtain ⟨b, o, s⟩ := a
        have hs2 : s = none := by simpa using hs
        subst hs2
        unfold Addr.add
        by_cases h1 : i * k = 0 <;> by_cases h2 : j = 0 <;> simp [h1, h2]
      rw [← e]
      exact h1
    · obtain ⟨i, hi, rfl⟩ := List.getElem_of_mem hx
      exact (hp i _ (List.getElem?_eq_getElem hi)).2.2
def enI (n : Int) : List Value := [.int .i64 n]
def enU (n : Int) : List Value := [.int .u64 n]
def enS (s : ByteArray) : List Value := [.string s]
theorem int_cells {k : IntKind} {E : TypeId} (hE : P.underlying E = some (.int k)) {n : Nat} {cs : List Value} {y : DataW H × List MemPlace} (h : DataW.trod enc P w base spare held n E cs = some y) : ∃ x : Int, cs = [.int k x] ∧ (Lit.int k x).wf = true := by
  obtain ⟨a0, e0, _, w0⟩ := DataW.trod_int hE h
  exact ⟨a0, e0, w0⟩
theorem str_cells {E : TypeId} (hE : P.underlying E = some .string) {n : Nat} {cs : List Value} {y : DataW H × List MemPlace} (h : DataW.trod enc P w base spare held n E cs = some y) : ∃ s : ByteArray, cs = [.string s] ∧ s.size ≤ maxLen := by
  obtain ⟨a0, e0, _, w0⟩ := DataW.trod_string hE h
  exact ⟨a0, e0, w0⟩
theorem ints_arg {r : Reach} {b0 : Nat} {v : Value} {d : DataW H} {p : List MemPlace} {T E : TypeId} (hT : P.underlying T = some (.slice E)) (hE : P.underlying E = some (.int .i64)) (hC : P.cellsOf E = 1) (hv : Value.okWide P w r b0 T v) (h : DataW.Trod enc P w base spare held T v d p) :
    ∃ l : List Int, RIn 1 enI w v l ∧ ∀ x ∈ l, -9223372036854775808 ≤ x ∧ x < 9223372036854775808 :=
  rin_arg hT hC (by omega) (fun n cs y h => by
    obtain ⟨x, rfl, hw⟩ := int_cells hE h
    exact ⟨x, rfl, rfl, wfb_i64 hw⟩) hv h
theorem nums_arg {r : Reach} {b0 : Nat} {v : Value} {d : DataW H} {p : List MemPlace} {T E : TypeId} (hT : P.underlying T = some (.slice E)) (hE : P.underlying E = some (.int .u64)) (hC : P.cellsOf E = 1) (hv : Value.okWide P w r b0 T v) (h : DataW.Trod enc P w base spare held T v d p) :
    ∃ l : List Int, RIn 1 enU w v l ∧ ∀ x ∈ l, 0 ≤ x ∧ x < 18446744073709551616 :=
  rin_arg hT hC (by omega) (fun n cs y h => by
    obtain ⟨x, rfl, hw⟩ := int_cells hE h
    exact ⟨x, rfl, rfl, wfb_u64 hw⟩) hv h
theorem strs_arg {r : Reach} {b0 : Nat} {v : Value} {d : DataW H} {p : List MemPlace} {T E : TypeId} (hT : P.underlying T = some (.slice E)) (hE : P.underlying E = some .string) (hC : P.cellsOf E = 1) (hv : Value.okWide P w r b0 T v) (h : DataW.Trod enc P w base spare held T v d p) :
    ∃ l : List ByteArray, RIn 1 enS w v l ∧ ∀ x ∈ l, x.size ≤ maxLen :=
  rin_arg hT hC (by omega) (fun n cs y h => by
    obtain ⟨x, rfl, hw⟩ := str_cells hE h
    exact ⟨x, rfl, rfl, hw⟩) hv h
end
end Go.Proofs.Ytpgjploaliefdaa.lx

namespace Go.Proofs.Ytpgjploaliefdaa.lx
open Go Go.RowKit Go.Proofs.Ytpgjploaliefdaa.gr Go.Proofs.Ytpgjploaliefdaa.ob
set_option linter.unusedVariables false
set_option linter.unusedSimpArgs false
theorem enI_len (x : Int) : (enI x).length = 1 := rfl
theorem enU_len (x : Int) : (enU x).length = 1 := rfl
theorem enI_one (x : Int) : ∀ u ∈ enI x, u.oneCell' = true := fun u hu => by
  obtain rfl := List.mem_singleton.1 hu
  rfl
theorem enU_one (x : Int) : ∀ u ∈ enU x, u.oneCell' = true := fun u hu => by
  obtain rfl := List.mem_singleton.1 hu
  rfl
theorem app_u {ops : Array Oper} {rest : List Oper} {o : Oper} {a : Act} {Q : Exit → Act → World → Prop} (w : World) (hw : Region.wanted o (yielded ops a.tmps) = true) (s x : Operand)
    (ho : o.op = .call { callee := .builtin .append, args := #[s, x], argTypes := #[22, 22] })
    (B : Nat) (v u : Value) (xs ys : List Int) (hs : a.eval s = v) (hx : a.eval x = u) (hown : OwnR 24 1 enU w B v xs) (hys : RIn 1 enU w u ys) (hbig : xs.length + ys.length < 100000000000) (hB : B ≤ w.heap.size)
    (h : ∀ v' w', OwnR 24 1 enU w' B v' (xs ++ ys) → w.grownBy w' v.ownBlock → (v'.ownBlock = v.ownBlock ∨ v'.ownBlock = some w.heap.size) → wpList Try.prog ops Q rest (a.put o.dst v') w') : wpList Try.prog ops Q (o :: rest) a w :=
  app_g (α := Int) (k := 1) (en := enU) w hw s x _ ho enU_len enU_one _ 8 Try.underlying22 info_u64 rfl (by decide) (by decide) B v u xs ys hs hx hown hys hbig hB h
theorem step_u {ops : Array Oper} {o : Oper} {a : Act} {Q : Exit → Act → World → Prop} {w : World} {K : Act → World → Prop} {E : Prop} (hg : o.guard = none) (s x : Operand)
    (ho : o.op = .call { callee := .builtin .append, args := #[s, x], argTypes := #[22, 22] })
    (B : Nat) (v u : Value) (xs ys : List Int) (hs : a.eval s = v) (hx : a.eval x = u) (hown : OwnR 24 1 enU w B v xs) (hys : RIn 1 enU w u ys) (hbig : xs.length + ys.length < 100000000000) (hB : B ≤ w.heap.size)
    (h : ∀ v' w', OwnR 24 1 enU w' B v' (xs ++ ys) → w.grownBy w' v.ownBlock → (v'.ownBlock = v.ownBlock ∨ v'.ownBlock = some w.heap.size) → K (a.put o.dst v') w') :
    if Region.wanted o (yielded ops a.tmps) = true then Oper.wp Try.prog o a w K Q else E :=
  step_g (α := Int) (k := 1) (en := enU) hg s x _ ho enU_len enU_one _ 8 Try.underlying22 info_u64 rfl (by decide) (by decide) B v u xs ys hs hx hown hys hbig hB h
theorem one_u (w : World) (x : Int) {m : Nat} (hm : m = w.heap.size) : RIn 1 enU (w.alloc (.cells #[.int .u64 x] 24)) (.slice (some ⟨m, 0, none⟩) 1 1) [x] := one_g w x _ rfl _ hm
theorem app_i {ops : Array Oper} {rest : List Oper} {o : Oper} {a : Act} {Q : Exit → Act → World → Prop} (w : World) (hw : Region.wanted o (yielded ops a.tmps) = true) (s x : Operand)
    (ho : o.op = .call { callee := .builtin .append, args := #[s, x], argTypes := #[53, 53] })
    (B : Nat) (v u : Value) (xs ys : List Int) (hs : a.eval s = v) (hx : a.eval x = u) (hown : OwnR 3 1 enI w B v xs) (hys : RIn 1 enI w u ys) (hbig : xs.length + ys.length < 100000000000) (hB : B ≤ w.heap.size)
    (h : ∀ v' w', OwnR 3 1 enI w' B v' (xs ++ ys) → w.grownBy w' v.ownBlock → (v'.ownBlock = v.ownBlock ∨ v'.ownBlock = some w.heap.size) → wpList Try.prog ops Q rest (a.put o.dst v') w') : wpList Try.prog ops Q (o :: rest) a w :=
  app_g (α := Int) (k := 1) (en := enI) w hw s x _ ho enI_len enI_one _ 8 Try.underlying53 info_int rfl (by decide) (by decide) B v u xs ys hs hx hown hys hbig hB h
theorem step_i {ops : Array Oper} {o : Oper} {a : Act} {Q : Exit → Act → World → Prop} {w : World} {K : Act → World → Prop} {E : Prop} (hg : o.guard = none) (s x : Operand)
    (ho : o.op = .call { callee := .builtin .append, args := #[s, x], argTypes := #[53, 53] })
    (B : Nat) (v u : Value) (xs ys : List Int) (hs : a.eval s = v) (hx : a.eval x = u) (hown : OwnR 3 1 enI w B v xs) (hys : RIn 1 enI w u ys) (hbig : xs.length + ys.length < 100000000000) (hB : B ≤ w.heap.size)
    (h : ∀ v' w', OwnR 3 1 enI w' B v' (xs ++ ys) → w.grownBy w' v.ownBlock → (v'.ownBlock = v.ownBlock ∨ v'.ownBlock = some w.heap.size) → K (a.put o.dst v') w') :
    if Region.wanted o (yielded ops a.tmps) = true then Oper.wp Try.prog o a w K Q else E :=
  step_g (α := Int) (k := 1) (en := enI) hg s x _ ho enI_len enI_one _ 8 Try.underlying53 info_int rfl (by decide) (by decide) B v u xs ys hs hx hown hys hbig hB h
theorem one_i (w : World) (x : Int) {m : Nat} (hm : m = w.heap.size) : RIn 1 enI (w.alloc (.cells #[.int .i64 x] 3)) (.slice (some ⟨m, 0, none⟩) 1 1) [x] := one_g w x _ rfl _ hm
/-- Numbers that read so. -/
theorem nums_of {W : World} {v : Value} {zs : List Int} (h : RIn 1 enU W v zs) (h0 : 0 < W.heap.size) (hl : zs.length < 1000000000000) : NumsIn W v zs := by
  obtain ⟨ad, b, off, cap, rfl, h1, h2, h3, h4, h5, h6⟩ := h.form
  rcases Nat.eq_zero_or_pos zs.length with hz | hz
  · have : zs = [] := List.eq_nil_of_length_eq_zero hz
    subst this
    exact ⟨ad, 0, 0, cap, rfl, ⟨fun h => by simp at h, h2⟩, Nat.zero_le _, ⟨h4, hl⟩, h0, WordsAt.none _ _ _ _⟩
  · have := h1 hz
    subst this
    refine ⟨_, b, off, cap, rfl, ⟨fun _ => rfl, h2⟩, h3, ⟨h4, hl⟩, h5 hz, words_of fun i hi => ?_⟩
    have h7 := h6.at (i := i) (x := zs[i]) (List.getElem?_eq_getElem hi) 0 (.int .u64 zs[i]) rfl
    rw [show b = b from rfl] at h7
    simpa [List.getD, hi] using h7
theorem of_nums {W : World} {v : Value} {zs : List Int} (h : NumsIn W v zs) : RIn 1 enU W v zs := by
  obtain ⟨ad, b, off, cap, rfl, ⟨h1, h2⟩, h3, ⟨h4, h4'⟩, h5, h6⟩ := h
  refine RIn.mk (ad := ad) (b := b) (off := off) (cap := cap) rfl h1 h2 h3 h4 (fun _ => h5) fun i j x y hx hy => ?_
  have hi : i < zs.length := by
    rcases Nat.lt_or_ge i zs.length with h | h
    · exact h
    · rw [List.getElem?_eq_none h] at hx; cases hx
  have hj : j = 0 := by
    rcases j with _ | j
    · rfl
    · simp [enU] at hy
  subst hj
  have hy : Value.int .u64 x = y := by simpa [enU] using hy
  rw [Nat.mul_one, Nat.add_zero, h6.at i hi, ← hy]
  rw [List.getElem?_eq_getElem hi] at hx
  cases hx
  simp [List.getD, hi]
end Go.Proofs.Ytpgjploaliefdaa.lx

namespace Go.Proofs.Ytpgjploaliefdaa.im
open Go Go.RowKit Go.Proofs.Ytpgjploaliefdaa.cm Go.Proofs.Ytpgjploaliefdaa.cw Go.Proofs.Ytpgjploaliefdaa.ga Go.Proofs.Ytpgjploaliefdaa.gr Go.Proofs.Ytpgjploaliefdaa.hp Go.Proofs.Ytpgjploaliefdaa.ob Go.Proofs.Ytpgjploaliefdaa.hd Go.Proofs.Ytpgjploaliefdaa.cp Go.Proofs.Ytpgjploaliefdaa.ck
open Go.Proofs.Ytpgjploaliefdaa.fr (strB putN rowN strB_size putN_lo joinR joinU bytesU frameS headS halfS idOk)
set_option linter.unusedVariables false
set_option linter.unusedSimpArgs false
set_option maxRecDepth 100000
def h0 : Hp := ⟨0, 0, 0, false, 0, [], [], [], [], []⟩
def h1 : Hp := ⟨10, 5, 0, false, 2, [2, 6], [], [], [], [21]⟩
def ob1 : Ob := ⟨0, 1, 0, false, 0⟩
def s1 : Fnd := (((Fnd.nil.note h1.lay 1 [ob1]).note h1.lay 2 []).note h1.lay 3 []).note h1.lay 4 []
theorem aw_n : lookF h0 = none := by kernel_rfl
theorem aw_h : lookF h1 = some s1 := by kernel_rfl
theorem up_lo {n : Nat} (h : n < 128) : uP n = [UInt8.ofNat n] := by
  unfold uP
  rw [putN_lo h]
  rfl
theorem aw_head : strB (rowN (headN h1)) = ⟨#[1, 10, 5, 0, 0, 2]⟩ := by
  show strB ([1, 10, 5, 0, 0, 2].flatMap putN) = _
  simp only [List.flatMap_cons, List.flatMap_nil]
  repeat rw [putN_lo (by decide)]
  rfl
theorem aw_roots : rootS h1 = ⟨#[1, 10]⟩ := by
  show strB (putN 1) ++ ⟨(refsU [21]).toArray⟩ = _
  unfold refsU
  simp only [List.flatMap_cons, List.flatMap_nil]
  rw [putN_lo (by decide), show (adV 21).toNat = 10 from rfl, up_lo (by decide)]
  rfl
theorem aw_obj : objU [2, 6] ob1 = [0, 1, 0, 6, 0, 0, 0, 0, 0, 0, 0] := by
  show (strB ([0, 1, 0].flatMap putN)).data.toList ++ refsU [] ++ uWords [6] = _
  simp only [List.flatMap_cons, List.flatMap_nil]
  repeat rw [putN_lo (by decide)]
  rfl
theorem aw_p1 : partU h1 s1 1 = ⟨#[1, 0, 1, 0, 6, 0, 0, 0, 0, 0, 0, 0]⟩ := by
  show (⟨(uP 1 ++ [ob1].flatMap (objU [2, 6])).toArray⟩ : ByteArray) = _
  simp only [List.flatMap_cons, List.flatMap_nil]
  rw [aw_obj, up_lo (by decide)]
  rfl
theorem aw_p0 (q : Nat) (hq : q = 2 ∨ q = 3 ∨ q = 4) : partU h1 s1 q = ⟨#[0]⟩ := by
  rcases hq with rfl | rfl | rfl
  all_goals
    show (⟨(uP 0 ++ []).toArray⟩ : ByteArray) = _
    rw [up_lo (by decide)]
    rfl
theorem aw_o1 : objsR [2, 6] [ob1] = (⟨#[1, 0, 1, 0, 6, 0, 0, 0, 0, 0, 0, 0]⟩, 0) := by
  have := part_ok aw_h 1 (by decide)
  rw [aw_p1] at this
  exact this
theorem aw_o2 : objsR [2] [] = (⟨#[]⟩, 1) := rfl
theorem aw_r1 : refsR [0, 11] = (⟨#[0, 5]⟩, 0) := by
  have : refsU [0, 11] = [0, 5] := by
    unfold refsU
    simp only [List.flatMap_cons, List.flatMap_nil]
    rw [show (adV 0).toNat = 0 from rfl, show (adV 11).toNat = 5 from rfl, up_lo (by decide), up_lo (by decide)]
    rfl
  unfold refsR
  rw [if_pos (by decide), this]
theorem aw_r2 : refsR [4] = (⟨#[]⟩, 3) := rfl
theorem hs_lo {id : Nat} {b : ByteArray} (h : b.size < 128) : headS id b = strB [id] ++ strB [b.size] ++ b := by
  unfold headS
  rw [putN_lo h]
theorem fs_len {id : Nat} {b : ByteArray} (h : b.size < 128) : (frameS id b).data.toList.length = b.size + 6 := by
  rw [Array.length_toList]
  show (frameS id b).size = _
  unfold frameS halfS
  rw [hs_lo h]
  simp only [ByteArray.size_append, strB_size, List.length_cons, List.length_nil]
  have h4 : ∀ x, (le4 x).length = 4 := fun x => rfl
  rw [h4]
  omega
theorem aw_frames : framesOf h1 s1 = [(1, ⟨#[1, 10, 5, 0, 0, 2]⟩), (2, ⟨#[1, 10]⟩), (3, ⟨#[1, 0, 1, 0, 6, 0, 0, 0, 0, 0, 0, 0]⟩), (4, ⟨#[0]⟩), (5, ⟨#[0]⟩), (6, ⟨#[0]⟩)] := by
  unfold framesOf
  rw [aw_head, aw_roots, aw_p1, aw_p0 2 (by decide), aw_p0 3 (by decide), aw_p0 4 (by decide)]
theorem aw_ok : ∀ f ∈ framesOf h1 s1, idOk f := by
  rw [aw_frames]
  decide
theorem aw_first : (frameS 1 ⟨#[1, 10, 5, 0, 0, 2]⟩).data.toList.take 8 = [1, 6, 1, 10, 5, 0, 0, 2] := by
  unfold frameS
  rw [hs_lo (by decide)]
  generalize halfS _ = Z
  show (((strB [1] ++ strB [6] ++ ⟨#[1, 10, 5, 0, 0, 2]⟩ : ByteArray) ++ Z).data.toList).take 8 = _
  rw [ByteArray.data_append, Array.toList_append, List.take_append_of_le_length (by decide)]
  rfl
theorem aw_d : ∃ d : ByteArray, joinR (framesOf h1 s1) = (d, 0) ∧ d.size = 59 ∧ d.extract 0 8 = ⟨#[1, 6, 1, 10, 5, 0, 0, 2]⟩ := by
  refine ⟨_, if_pos aw_ok, ?_, ?_⟩
  · show ((joinU (framesOf h1 s1)).toArray).size = 59
    rw [aw_frames]
    unfold joinU bytesU
    simp only [List.size_toArray, List.flatMap_cons, List.flatMap_nil, List.length_append, List.length_nil]
    repeat rw [fs_len (by decide)]
    rfl
  · apply ByteArray.ext
    apply Array.toList_inj.1
    rw [ByteArray.data_extract]
    show (((joinU (framesOf h1 s1)).toArray).extract 0 8).toList = _
    rw [Array.toList_extract, List.extract_eq_take_drop, List.drop_zero, aw_frames]
    unfold joinU bytesU
    simp only [List.flatMap_cons]
    show List.take 8 _ = _
    rw [List.take_append_of_le_length (by rw [fs_len (by decide)]; decide)]
    exact aw_first
end Go.Proofs.Ytpgjploaliefdaa.im

namespace Go.Proofs.Ytpgjploaliefdaa.im
open Go Go.RowKit Go.Proofs.Ytpgjploaliefdaa.cm Go.Proofs.Ytpgjploaliefdaa.cw Go.Proofs.Ytpgjploaliefdaa.ga Go.Proofs.Ytpgjploaliefdaa.gr Go.Proofs.Ytpgjploaliefdaa.hp Go.Proofs.Ytpgjploaliefdaa.ob Go.Proofs.Ytpgjploaliefdaa.hd Go.Proofs.Ytpgjploaliefdaa.cp Go.Proofs.Ytpgjploaliefdaa.ck
open Go.Proofs.Ytpgjploaliefdaa.fr (joinR)
set_option linter.unusedVariables false
set_option linter.unusedSimpArgs false
set_option maxRecDepth 100000
set_option maxHeartbeats 4000000
theorem obj_lit (w : World) (o : Ob) (b : Nat) (h : Blk w b (obCells o).toArray 36) : ObjsIn w (.slice (some ⟨b, 0, none⟩) 1 1) [o] := by
  obtain ⟨lb, cb, fb⟩ := h.get
  refine ⟨some ⟨b, 0, none⟩, b, 0, 1, rfl, ⟨fun _ => rfl, fun e => by cases e⟩, Nat.le_refl _, (by simp), lb, ObjsAt.of fun i hi => ?_⟩
  obtain rfl : i = 0 := by simp at hi; exact hi
  have key : ∀ j u, (obCells o)[j]? = some u → w.cell? ⟨b, 0 + 0 * 5 + j, none⟩ = some u := by
    intro j u hu
    rw [cb]
    simpa using hu
  exact ⟨key 0 _ rfl, key 1 _ rfl, key 2 _ rfl, key 3 _ rfl, key 4 _ rfl⟩
theorem nums_lit (w : World) (zs : List Int) (cs : Array Value) (b : Nat) (h : Blk w b cs 24) (hc : cs = (zs.map fun n : Int => Value.int .u64 n).toArray) (h0 : zs.length < 1000) (hp : 0 < zs.length) : NumsIn w (.slice (some ⟨b, 0, none⟩) zs.length zs.length) zs := by
  obtain ⟨lb, cb, fb⟩ := h.get
  refine ⟨some ⟨b, 0, none⟩, b, 0, zs.length, rfl, ⟨fun _ => rfl, fun e => by cases e⟩, Nat.le_refl _, by omega, lb, words_of fun i hi => ?_⟩
  rw [Nat.zero_add, cb, hc]
  simp [List.getD, hi]
theorem small_lit {zs : List Int} (h : ∀ z ∈ zs, 0 ≤ z ∧ z < 18446744073709551616) : Small zs := fun i => by
  simp only [List.getD]
  by_cases hi : i < zs.length
  · rw [List.getElem?_eq_getElem hi]
    exact h _ (List.getElem_mem hi)
  · rw [List.getElem?_eq_none (by omega)]
    exact ⟨by decide, by decide⟩
theorem hin0 (w : World) (hz : 0 < w.heap.size) : HIn w h0 ⟨.slice none 0 0, .slice none 0 0, .slice none 0 0, .slice none 0 0, .slice none 0 0⟩ := by
  have hs : Small [] := small_lit (fun z hz => by cases hz)
  exact ⟨⟨by decide, by decide⟩, ⟨by decide, by decide⟩, ⟨by decide, by decide⟩, ⟨by decide, by decide⟩, NumsIn.nil ‹_›, NumsIn.nil ‹_›, NumsIn.nil ‹_›, NumsIn.nil ‹_›, NumsIn.nil ‹_›, hs, hs, hs, hs, hs⟩
theorem hin1 (w : World) (vl vr : Value) (hl : NumsIn w vl [2, 6]) (hr : NumsIn w vr [21]) (hz : 0 < w.heap.size) : HIn w h1 ⟨vl, .slice none 0 0, .slice none 0 0, .slice none 0 0, vr⟩ := by
  have hs : Small [] := small_lit (fun z hz => by cases hz)
  exact ⟨⟨by decide, by decide⟩, ⟨by decide, by decide⟩, ⟨by decide, by decide⟩, ⟨by decide, by decide⟩, hl, NumsIn.nil ‹_›, NumsIn.nil ‹_›, NumsIn.nil ‹_›, hr, small_lit (by decide), hs, hs, hs, small_lit (by decide)⟩
theorem tg1 : TgB [ob1] := fun o ho => by
  obtain rfl : o = ob1 := by simpa using ho
  decide
theorem aw_HO1 : ∀ (W : World) (b b2 : Nat), Blk W b #[.int .u64 2, .int .u64 6] 24 → Blk W b2 #[.int .i64 0, .int .i64 1, .int .i64 0, .bool false, .int .u64 0] 36 → Calls Try.prog 8 #[.slice (some ⟨b, 0, none⟩) 2 2, .slice (some ⟨b2, 0, none⟩) 1 1] W fun e w' => e = .returned (.tuple #[.string ⟨#[1, 0, 1, 0, 6, 0, 0, 0, 0, 0, 0, 0]⟩, .int .i64 0]) ∧ Below W.heap.size W w' :=
  fun W b b2 B1 B2 => by
    have := objs_any _ _ [2, 6] [ob1] W (nums_lit W [2, 6] _ b B1 rfl (by decide) (by decide)) (small_lit (by decide)) (obj_lit W ob1 b2 B2) tg1 (by decide) (by decide)
    rw [aw_o1] at this
    exact this
theorem aw_HO2 : ∀ (W : World) (b : Nat), Blk W b #[.int .u64 2] 24 → Calls Try.prog 8 #[.slice (some ⟨b, 0, none⟩) 1 1, .slice none 0 0] W fun e w' => e = .returned (.tuple #[.string ⟨#[]⟩, .int .i64 1]) ∧ Below W.heap.size W w' :=
  fun W b B1 => by
    have := objs_any _ _ [2] [] W (nums_lit W [2] _ b B1 rfl (by decide) (by decide)) (small_lit (by decide)) (ObjsIn.nil (Nat.lt_of_le_of_lt (Nat.zero_le _) B1.lt)) (fun o ho => by cases ho) (by decide) (by decide)
    rw [aw_o2] at this
    exact this
theorem aw_HR1 : ∀ (W : World) (b : Nat), Blk W b #[.int .u64 0, .int .u64 11] 24 → Calls Try.prog 5 #[.slice (some ⟨b, 0, none⟩) 2 2] W fun e w' => e = .returned (.tuple #[.string ⟨#[0, 5]⟩, .int .i64 0]) ∧ Below W.heap.size W w' :=
  fun W b B1 => by
    have := refs_any _ [0, 11] W (nums_lit W [0, 11] _ b B1 rfl (by decide) (by decide)) (small_lit (by decide)) (by decide)
    rw [aw_r1] at this
    exact this
theorem aw_HR2 : ∀ (W : World) (b : Nat), Blk W b #[.int .u64 4] 24 → Calls Try.prog 5 #[.slice (some ⟨b, 0, none⟩) 1 1] W fun e w' => e = .returned (.tuple #[.string ⟨#[]⟩, .int .i64 3]) ∧ Below W.heap.size W w' :=
  fun W b B1 => by
    have := refs_any _ [4] W (nums_lit W [4] _ b B1 rfl (by decide) (by decide)) (small_lit (by decide)) (by decide)
    rw [aw_r2] at this
    exact this
theorem aw_HD0 : ∀ (W : World), 0 < W.heap.size → Calls Try.prog 9 #[.agg #[.int .u64 0, .int .i64 0, .int .i64 0, .bool false, .int .i64 0, .slice none 0 0, .slice none 0 0, .slice none 0 0, .slice none 0 0, .slice none 0 0]] W fun e w' => e = .returned (.tuple #[.string ⟨#[]⟩, .int .i64 1]) ∧ Below W.heap.size W w' :=
  fun W hW => dump_none h0 ⟨.slice none 0 0, .slice none 0 0, .slice none 0 0, .slice none 0 0, .slice none 0 0⟩ W (hin0 W hW) aw_n
theorem aw_HD1 {d : ByteArray} (hd1 : joinR (framesOf h1 s1) = (d, 0)) : ∀ (W : World) (b b2 : Nat), Blk W b #[.int .u64 2, .int .u64 6] 24 → Blk W b2 #[.int .u64 21] 24 → Calls Try.prog 9 #[.agg #[.int .u64 10, .int .i64 5, .int .i64 0, .bool false, .int .i64 2, .slice (some ⟨b, 0, none⟩) 2 2, .slice none 0 0, .slice none 0 0, .slice none 0 0, .slice (some ⟨b2, 0, none⟩) 1 1]] W fun e w' => e = .returned (.tuple #[.string d, .int .i64 0]) ∧ Below W.heap.size W w' :=
  fun W b b2 B1 B2 => by
    have := dump_some h1 ⟨.slice (some ⟨b, 0, none⟩) 2 2, .slice none 0 0, .slice none 0 0, .slice none 0 0, .slice (some ⟨b2, 0, none⟩) 1 1⟩ s1 W (hin1 W _ _ (nums_lit W [2, 6] _ b B1 rfl (by decide) (by decide)) (nums_lit W [21] _ b2 B2 rfl (by decide) (by decide)) (Nat.lt_of_le_of_lt (Nat.zero_le _) B1.lt)) aw_h
    rw [hd1] at this
    exact this
theorem awake_pos (w : World) : Calls Try.prog 4 #[] w fun e w' => e = .returned (.bool true) ∧ Below w.heap.size w w' ∧ 0 < w'.heap.size := by
  have HO1 := Lib.hid aw_HO1
  have HO2 := Lib.hid aw_HO2
  have HR1 := Lib.hid aw_HR1
  have HR2 := Lib.hid aw_HR2
  have HD0 := Lib.hid aw_HD0
  obtain ⟨d, hd1, hd2, hd3⟩ := aw_d
  have HD1 := Lib.hid (aw_HD1 hd1)
  have h8 : (8 : Int) ≤ (d.size : Int) := by omega
  have HS := Lib.hid hd2
  have HE := Lib.hid hd3
  clear hd1 hd3
  go_enter Try.func4, Try.ntmps4
  go_wp2_with fail
  refine (HO1.out _ _ _ ?_ ?_).mono ?_
  · (repeat (first | with_reducible assumption | exact Blk.mk rfl | exact Blk.mk (by simp) | refine Blk.drew ?_ | refine Blk.alloc ?_ _ | refine Blk.tr ?_ (by with_reducible assumption)))
  · (repeat (first | with_reducible assumption | exact Blk.mk rfl | exact Blk.mk (by simp) | refine Blk.drew ?_ | refine Blk.alloc ?_ _ | refine Blk.tr ?_ (by with_reducible assumption)))
  rintro e w1 ⟨rfl, k1⟩
  go_wp2_with fail
  refine (HO2.out _ _ ?_).mono ?_
  · (repeat (first | with_reducible assumption | exact Blk.mk rfl | exact Blk.mk (by simp) | refine Blk.drew ?_ | refine Blk.alloc ?_ _ | refine Blk.tr ?_ (by with_reducible assumption)))
  rintro e w2 ⟨rfl, k2⟩
  go_wp2_with fail
  refine (HR1.out _ _ ?_).mono ?_
  · (repeat (first | with_reducible assumption | exact Blk.mk rfl | exact Blk.mk (by simp) | refine Blk.drew ?_ | refine Blk.alloc ?_ _ | refine Blk.tr ?_ (by with_reducible assumption)))
  rintro e w3 ⟨rfl, k3⟩
  go_wp2_with fail
  refine (HR2.out _ _ ?_).mono ?_
  · (repeat (first | with_reducible assumption | exact Blk.mk rfl | exact Blk.mk (by simp) | refine Blk.drew ?_ | refine Blk.alloc ?_ _ | refine Blk.tr ?_ (by with_reducible assumption)))
  rintro e w4 ⟨rfl, k4⟩
  have hz : 0 < w4.heap.size := by have := k4.size; simp at this; omega
  go_wp2_with fail
  refine (HD0.out _ hz).mono ?_
  rintro e w5 ⟨rfl, k5⟩
  go_wp2_with fail
  refine (HD1.out _ _ _ ?_ ?_).mono ?_
  · (repeat (first | with_reducible assumption | exact Blk.mk rfl | exact Blk.mk (by simp) | refine Blk.drew ?_ | refine Blk.alloc ?_ _ | refine Blk.tr ?_ (by with_reducible assumption)))
  · (repeat (first | with_reducible assumption | exact Blk.mk rfl | exact Blk.mk (by simp) | refine Blk.drew ?_ | refine Blk.alloc ?_ _ | refine Blk.tr ?_ (by with_reducible assumption)))
  rintro e w6 ⟨rfl, k6⟩
  go_wp2_with fail
  go_ret
  refine retB2 (by rw [HE.out]; kernel_rfl) ⟨?_, ?_⟩
  · (repeat (first | with_reducible exact Below.refl _ _ | with_reducible refine kp_alloc ?_ _ | with_reducible refine kp_drew ?_ | with_reducible refine below_drewN ?_ _ | with_reducible refine kp_set ?_ (by first | omega | (simp; done) | (simp; omega)) _ | with_reducible refine kp_tr ?_ (by with_reducible assumption)))
  · have := k5.size; have := k6.size; simp at this; omega
theorem awake_any (w : World) : Calls Try.prog 4 #[] w fun e w' => e = .returned (.bool true) ∧ Below w.heap.size w w' := (awake_pos w).mono fun e w' h => ⟨h.1, h.2.1⟩
end Go.Proofs.Ytpgjploaliefdaa.im

namespace Go.Proofs.Ytpgjploaliefdaa.im
open Go Go.RowKit Go.Proofs.Ytpgjploaliefdaa.cm Go.Proofs.Ytpgjploaliefdaa.cw Go.Proofs.Ytpgjploaliefdaa.ga Go.Proofs.Ytpgjploaliefdaa.gr Go.Proofs.Ytpgjploaliefdaa.hp Go.Proofs.Ytpgjploaliefdaa.ob Go.Proofs.Ytpgjploaliefdaa.hd Go.Proofs.Ytpgjploaliefdaa.cp Go.Proofs.Ytpgjploaliefdaa.ck Go.Proofs.Ytpgjploaliefdaa.lx
open Go.Proofs.Ytpgjploaliefdaa.fr (strB rowN putN strB_size row_any putN_10)
set_option linter.unusedVariables false
set_option linter.unusedSimpArgs false
set_option maxRecDepth 100000
set_option maxHeartbeats 4000000
def ptrV (v : Int) : Int := if v = 0 then 0 else 2 * v + 1
def ptrsV (l : List Int) : List Int := l.map ptrV
theorem row_nil (ad : Option Addr) (cap : Nat) (w : World) : Calls Try.prog 7 #[.slice ad 0 cap] w fun e w' => e = .returned (.string ⟨#[]⟩) ∧ Below w.heap.size w w' := by
  go_enter Try.func7, Try.ntmps7
  go_wp2_with fail
  go_loopw [3, 8] (fun bv i wr => bv = .slice none 0 0 ∧ i = .int .i64 0 ∧ Hid (Below w.heap.size w wr)) (fun _ i _ => 0)
  case atStart => exact ⟨rfl, rfl, Lib.hid (Below.refl _ _)⟩
  case round =>
    obtain ⟨rfl, rfl, hb⟩ := hrel
    have hcv := conv_nil wr
    go_wp2_with fail
    go_ret
    exact ⟨rfl, hb.out⟩
theorem pointers_any (v : Value) (xs : List Int) (w : World) (hu : RIn 1 enU w v xs) (hx : ∀ x ∈ xs, 0 ≤ x ∧ x < 9223372036854775808) (hl : xs.length ≤ 20) :
    Calls Try.prog 6 #[v] w fun e w' => (∃ u, e = .returned u ∧ OwnR 24 1 enU w' w.heap.size u (ptrsV xs)) ∧ Below w.heap.size w w' := by
  obtain ⟨ad, b, off, cap, rfl, h1, h2, h3, h4, h5, h6⟩ := hu.form
  have H6 := Lib.hid h6
  have HX := Lib.hid hx
  clear h6 hu hx h2
  generalize hn : xs.length = n at *
  have HN := Lib.hid hn
  clear hn
  go_enter Try.func6, Try.ntmps6
  go_wp2_with fail
  go_loopw [3, 4] (fun u i wr => ∃ k : Nat, k ≤ n ∧ i = .int .i64 k ∧ Hid (OwnR 24 1 enU wr w.heap.size u (ptrsV (xs.take k))) ∧ Hid (Below w.heap.size w wr)) (fun _ i _ => n - (intOf i).toNat)
  case atStart => exact ⟨0, Nat.zero_le _, rfl, Lib.hid (OwnR.nil _ _), Lib.hid (Below.refl _ _)⟩
  case round =>
    obtain ⟨k, hk, rfl, ho, hb⟩ := hrel
    by_cases hlt : k < n
    · have had := h1 (by omega)
      subst had
      have hkx : k < xs.length := by rw [HN.out]; exact hlt
      have hcell := cell_tr hb.out (H6.out.at (i := k) (x := xs[k]) (List.getElem?_eq_getElem hkx) 0 _ rfl)
      rw [Nat.mul_one, Nat.add_zero] at hcell
      obtain ⟨hx0, hx1⟩ := HX.out xs[k] (List.getElem_mem hkx)
      have HS : Hid (ptrsV (xs.take (k + 1)) = ptrsV (xs.take k) ++ [ptrV xs[k]]) := Lib.hid (by unfold ptrsV; rw [List.take_add_one, List.map_append, List.getElem?_eq_getElem hkx]; rfl)
      have HL : Hid ((ptrsV (xs.take k)).length + 1 < 100000000000) := Lib.hid (by simp [ptrsV]; omega)
      generalize ptrsV (xs.take k) = done at *
      generalize xs[k] = X at *
      clear hkx
      by_cases hX : X = 0
      · subst hX
        go_wp2_with (at_builtin; refine app_u _ rfl _ _ rfl w.heap.size _ _ done [0] rfl rfl ?c0 (one_u _ _ rfl) HL.out ?c1 ?c2)
        case c0 => exact ho.out.tr (by (repeat (first | with_reducible exact Below.refl _ _ | with_reducible refine kp_alloc ?_ _ | with_reducible refine kp_drew ?_ | with_reducible refine below_drewN ?_ _ | with_reducible refine kp_set ?_ (by first | omega | (simp; done) | (simp; omega)) _ | with_reducible refine kp_tr ?_ (by with_reducible assumption))))
        case c1 => have := hb.out.size; simp; omega
        case c2 =>
        intro v' w2 ho2 hg hat
        have H2 : Hid (OwnR 24 1 enU w2 w.heap.size v' (ptrsV (xs.take (k + 1)))) := Lib.hid (by rw [HS.out]; exact ho2)
        have H3 : Hid (Below w.heap.size w w2) := Lib.hid (gr_below hg (b_alloc hb.out (Nat.le_refl _) _) (Nat.le_refl _) ho.out.block)
        clear ho2 hg hat
        go_wp2_with fail
        exact ⟨⟨k + 1, by omega, by go_num, H2, H3⟩, by simp [intOf]; omega⟩
      · have hw1 : IntKind.u64.wrap (2 * X) = 2 * X := IntWalk.u64_in _ (by omega)
        have hw2 : IntKind.u64.wrap (2 * X + 1) = 2 * X + 1 := IntWalk.u64_in _ (by omega)
        have hp : ptrV X = 2 * X + 1 := if_neg hX
        go_wp2_with (at_builtin; refine app_u _ rfl _ _ rfl w.heap.size _ _ done [2 * X + 1] rfl rfl ?c0 (one_u _ _ rfl) HL.out ?c1 ?c2)
        case c0 => exact ho.out.tr (by (repeat (first | with_reducible exact Below.refl _ _ | with_reducible refine kp_alloc ?_ _ | with_reducible refine kp_drew ?_ | with_reducible refine below_drewN ?_ _ | with_reducible refine kp_set ?_ (by first | omega | (simp; done) | (simp; omega)) _ | with_reducible refine kp_tr ?_ (by with_reducible assumption))))
        case c1 => have := hb.out.size; simp; omega
        case c2 =>
        intro v' w2 ho2 hg hat
        have H2 : Hid (OwnR 24 1 enU w2 w.heap.size v' (ptrsV (xs.take (k + 1)))) := Lib.hid (by rw [HS.out, hp]; exact ho2)
        have H3 : Hid (Below w.heap.size w w2) := Lib.hid (gr_below hg (b_alloc hb.out (Nat.le_refl _) _) (Nat.le_refl _) ho.out.block)
        clear ho2 hg hat
        go_wp2_with fail
        exact ⟨⟨k + 1, by omega, by go_num, H2, H3⟩, by simp [intOf]; omega⟩
    · obtain rfl : k = n := by omega
      rw [show xs.take k = xs by rw [← HN.out, List.take_length]] at ho
      go_wp2_with fail
      go_ret
      exact ⟨⟨_, rfl, ho.out⟩, hb.out⟩
theorem refs_own (u : Value) (zs : List Int) (W : World) (h : RIn 1 enU W u zs) (hz : ∀ x ∈ zs, 0 ≤ x ∧ x < 18446744073709551616) (hr : zs.all refOkB = true) (h0 : 0 < W.heap.size) (hl : zs.length ≤ 40) :
    Calls Try.prog 5 #[u] W fun e w' => e = .returned (.tuple #[.string ⟨(refsU zs).toArray⟩, .int .i64 0]) ∧ Below W.heap.size W w' := by
  have := refs_any u zs W (nums_of h h0 (by omega)) (small_lit hz) (by omega)
  unfold refsR at this
  rw [if_pos hr] at this
  exact this
theorem row_own_any (u : Value) (zs : List Int) (W : World) (B : Nat) (h : OwnR 24 1 enU W B u zs) (hz : ∀ x ∈ zs, 0 ≤ x ∧ x < 18446744073709551616) (hl : zs.length ≤ 40) :
    Calls Try.prog 7 #[u] W fun e w' => e = .returned (.string (strB (rowN (zs.map Int.toNat)))) ∧ Below W.heap.size W w' := by
  obtain ⟨ad, cap, rfl, h1, h2, h3, h4⟩ := h.form enU_len
  rcases Nat.eq_zero_or_pos zs.length with hn | hn
  · have : zs = [] := List.eq_nil_of_length_eq_zero hn
    subst this
    exact row_nil ad cap W
  · obtain ⟨g, rfl, h5, h6, h7⟩ := h4 hn
    have key : ∀ i, (zs.map Int.toNat).getD i 0 = (zs.getD i 0).toNat := fun i => by
      simp only [List.getD, List.getElem?_map]
      cases zs[i]? <;> rfl
    have hs := small_lit hz
    have := row_any g cap (zs.map Int.toNat) W (fun i hi => ?_) (fun i => ?_) (by simp; omega) (by simpa using hn)
    · rw [List.length_map] at this
      exact this
    · have hi : i < zs.length := by simpa using hi
      have h8 := h7 i 0 zs[i] (.int .u64 zs[i]) (List.getElem?_eq_getElem hi) rfl
      rw [Nat.mul_one, Nat.add_zero] at h8
      rw [h8, key]
      have h9 := (hz zs[i] (List.getElem_mem hi)).1
      simp only [List.getD, List.getElem?_eq_getElem hi, Option.getD_some]
      rw [Int.toNat_of_nonneg h9]
    · rw [key]
      have := hs i
      omega
theorem strB_add (l m : List Nat) : (strB (l ++ m)).data.toList = (strB l).data.toList ++ (strB m).data.toList := by
  unfold strB strOfNums
  simp
theorem refs_row {zs : List Int} (hz : ∀ x ∈ zs, 0 ≤ x ∧ x < 9223372036854775808) : (⟨(refsU (ptrsV zs)).toArray⟩ : ByteArray) = strB (rowN (zs.map Int.toNat)) ∧ (ptrsV zs).all refOkB = true := by
  induction zs with
  | nil => exact ⟨rfl, rfl⟩
  | cons z zs ih =>
    obtain ⟨e1, e2⟩ := ih fun x hx => hz x (List.mem_cons_of_mem _ hx)
    obtain ⟨h0, h1⟩ := hz z List.mem_cons_self
    have hv : adV (ptrV z) = z ∧ refOkB (ptrV z) = true := by
      unfold ptrV
      split
      · rename_i h; subst h; exact ⟨rfl, rfl⟩
      · have := adE_odd (t := z) (by omega)
        exact ⟨this.2, by unfold refOkB; rw [this.1]; simp⟩
    constructor
    · apply ByteArray.ext
      apply Array.toList_inj.1
      have e1 := congrArg (fun b : ByteArray => b.data.toList) e1
      have e1 : refsU (ptrsV zs) = (strB (rowN (zs.map Int.toNat))).data.toList := e1
      show refsU (ptrsV (z :: zs)) = _
      show (ptrV z :: ptrsV zs).flatMap _ = _
      rw [List.flatMap_cons]
      show uP (adV (ptrV z)).toNat ++ refsU (ptrsV zs) = (strB (putN z.toNat ++ rowN (zs.map Int.toNat))).data.toList
      rw [hv.1, e1, strB_add]
      simp [uP]
    · show (refOkB (ptrV z) && (ptrsV zs).all refOkB) = true
      rw [hv.2, e2]; rfl
theorem halves {l : List Int} (h : ∀ x ∈ l, 0 ≤ x ∧ x < 18446744073709551616) (k : Nat) : (∀ x ∈ (l.take k).map (· / 2), 0 ≤ x ∧ x < 9223372036854775808) := by
  intro x hx
  obtain ⟨y, hy, rfl⟩ := List.mem_map.1 hx
  have := h y (List.mem_of_mem_take hy)
  omega
theorem ptrs_in {l : List Int} (h : ∀ x ∈ l, 0 ≤ x ∧ x < 9223372036854775808) : ∀ x ∈ ptrsV l, 0 ≤ x ∧ x < 18446744073709551616 := by
  intro x hx
  obtain ⟨y, hy, rfl⟩ := List.mem_map.1 hx
  have := h y hy
  unfold ptrV
  split <;> omega
theorem row_size {l : List Int} (h : ∀ x ∈ l, 0 ≤ x ∧ x < 9223372036854775808) (hl : l.length ≤ 20) : (strB (rowN (l.map Int.toNat))).size ≤ 200 := by
  rw [strB_size]
  have key : ∀ l : List Int, (∀ x ∈ l, 0 ≤ x ∧ x < 9223372036854775808) → (rowN (l.map Int.toNat)).length ≤ 10 * l.length := by
    intro l
    induction l with
    | nil => intro _; simp [rowN]
    | cons x l ih =>
      intro h
      have h1 := ih fun y hy => h y (List.mem_cons_of_mem _ hy)
      have h2 := putN_10 (v := x.toNat) (by have := h x List.mem_cons_self; omega)
      show (putN x.toNat ++ rowN (l.map Int.toNat)).length ≤ _
      rw [List.length_append, List.length_cons]
      omega
  have := key l h
  omega
theorem parts_walk (v1 v2 : Value) (l1 l2 : List Int) (w : World) (h1 : RIn 1 enU w v1 l1) (h2 : RIn 1 enU w v2 l2) (b1 : ∀ x ∈ l1, 0 ≤ x ∧ x < 18446744073709551616) (b2 : ∀ x ∈ l2, 0 ≤ x ∧ x < 18446744073709551616) :
    Calls Try.prog 3 #[v1, v2] w fun e w' => e = .returned (.bool true) ∧ Below w.heap.size w w' := by
  obtain ⟨a1, p1, o1, c1, rfl, i1, j1, k1, m1, q1, h1⟩ := h1.form
  obtain ⟨a2, p2, o2, c2, rfl, i2, j2, k2, m2, q2, h2⟩ := h2.form
  have H1 := Lib.hid h1
  have H2 := Lib.hid h2
  have B1 := Lib.hid b1
  have B2 := Lib.hid b2
  clear h1 h2 b1 b2 j1 j2
  go_enter Try.func3, Try.ntmps3
  go_wp2_with fail
  refine (awake_pos _).mono ?_; rintro e w1 ⟨rfl, kw1, hz1⟩
  have HZ1 := Lib.hid hz1
  have HW1 := Lib.hid kw1
  clear hz1 kw1
  go_wp2_with fail
  go_loopw [6, 9] (fun a i wr => ∃ k : Nat, k ≤ l1.length ∧ k ≤ 20 ∧ i = .int .i64 k ∧ Hid (OwnR 24 1 enU wr w1.heap.size a ((l1.take k).map (· / 2))) ∧ Hid (Below w1.heap.size w1 wr)) (fun _ i _ => 20 - (intOf i).toNat)
  case atStart => exact ⟨0, Nat.zero_le _, Nat.zero_le _, rfl, Lib.hid (OwnR.nil _ _), Lib.hid (Below.refl _ _)⟩
  obtain ⟨k, hk, hk2, rfl, ho, hb⟩ := hrel
  by_cases hlt : k < l1.length ∧ k < 20
  · obtain ⟨hl1, hl2⟩ := hlt
    have hl1i : (k : Int) < (l1.length : Int) := by omega
    have hl2i : (k : Int) < 20 := by omega
    have had := i1 (by omega)
    subst had
    have hcell := cell_tr (Below.trans HW1.out (hb.out.mono HW1.out.size)) (H1.out.at (i := k) (x := (l1)[k]) (List.getElem?_eq_getElem hl1) 0 _ rfl)
    rw [Nat.mul_one, Nat.add_zero] at hcell
    obtain ⟨hx0, hx1⟩ := B1.out (l1)[k] (List.getElem_mem hl1)
    have HS : Hid ((l1.take (k + 1)).map (· / 2) = (l1.take k).map (· / 2) ++ [(l1)[k] / 2]) := Lib.hid (by rw [List.take_add_one, List.map_append, List.getElem?_eq_getElem hl1]; rfl)
    have HL : Hid (((l1.take k).map (· / 2)).length + 1 < 100000000000) := Lib.hid (by simp; omega)
    generalize (l1.take k).map (· / 2) = done at *
    generalize (l1)[k] = X at *
    go_wp2_with (at_builtin; refine app_u _ rfl _ _ rfl w1.heap.size _ _ done [X / 2] rfl rfl ?c0 (one_u _ _ rfl) HL.out ?c1 ?c2)
    case c0 => exact ho.out.tr (by (repeat (first | with_reducible exact Below.refl _ _ | with_reducible refine kp_alloc ?_ _ | with_reducible refine kp_drew ?_ | with_reducible refine below_drewN ?_ _ | with_reducible refine kp_set ?_ (by first | omega | (simp; done) | (simp; omega)) _ | with_reducible refine kp_tr ?_ (by with_reducible assumption))))
    case c1 => have := hb.out.size; simp; omega
    case c2 =>
    intro v' wq ho2 hg hat
    have H2' : Hid (OwnR 24 1 enU wq w1.heap.size v' ((l1.take (k + 1)).map (· / 2))) := Lib.hid (by rw [HS.out]; exact ho2)
    have H3' : Hid (Below w1.heap.size w1 wq) := Lib.hid (gr_below hg (b_alloc hb.out (Nat.le_refl _) _) (Nat.le_refl _) ho.out.block)
    clear ho2 hg hat
    go_wp2_with fail
    exact ⟨⟨k + 1, by omega, by omega, by go_num, H2', H3'⟩, by simp [intOf]; omega⟩
  have HKL : Hid ((l1.take k).map (· / 2) = (l1.take 20).map (· / 2)) := Lib.hid (by
    rcases (show k = l1.length ∨ k = 20 by omega) with h | h
    · rw [List.take_of_length_le (by omega), List.take_of_length_le (by omega)]
    · rw [h])
  rw [HKL.out] at ho
  go_upto_region 6 with (fail)
  go_cut [25] (fun v wx => v = .bool false ∧ wx = wr)
  case first =>
    go_wp2_with fail
    all_goals (try simp only [decide_eq_true_eq, decide_eq_false_iff_not] at *)
    all_goals first
      | (exfalso; omega)
      | (go_meet; first | exact ⟨rfl, rfl⟩ | exact ⟨congrArg Value.bool (decide_eq_false (by omega)), rfl⟩)
  case rest =>
  obtain ⟨rfl, hwc⟩ := hcut
  subst hwc
  go_wp2_with fail
  generalize wc = W2 at *
  have HOA := ho
  have HW2 : Hid (Below w.heap.size w W2) := Lib.hid (HW1.out.trans (hb.out.mono HW1.out.size))
  have HZ2 : Hid (0 < W2.heap.size) := Lib.hid (Nat.lt_of_lt_of_le HZ1.out hb.out.size)
  have HA := Lib.hid (halves B1.out 20)
  have HLA : Hid (((l1.take 20).map (· / 2)).length ≤ 20) := Lib.hid (by simp; omega)
  generalize (l1.take 20).map (· / 2) = A at *
  clear ho hb HW1 hk hk2 HKL hlt H1 B1
  go_loopw [7, 10] (fun a i wr => ∃ k : Nat, k ≤ l2.length ∧ k ≤ 20 ∧ i = .int .i64 k ∧ Hid (OwnR 24 1 enU wr W2.heap.size a ((l2.take k).map (· / 2))) ∧ Hid (Below W2.heap.size W2 wr)) (fun _ i _ => 20 - (intOf i).toNat)
  case atStart => exact ⟨0, Nat.zero_le _, Nat.zero_le _, rfl, Lib.hid (OwnR.nil _ _), Lib.hid (Below.refl _ _)⟩
  obtain ⟨k, hk, hk2, rfl, ho, hb⟩ := hrel
  by_cases hlt : k < l2.length ∧ k < 20
  · obtain ⟨hl1, hl2⟩ := hlt
    have hl1i : (k : Int) < (l2.length : Int) := by omega
    have hl2i : (k : Int) < 20 := by omega
    have had := i2 (by omega)
    subst had
    have hcell := cell_tr (Below.trans HW2.out (hb.out.mono HW2.out.size)) (H2.out.at (i := k) (x := (l2)[k]) (List.getElem?_eq_getElem hl1) 0 _ rfl)
    rw [Nat.mul_one, Nat.add_zero] at hcell
    obtain ⟨hx0, hx1⟩ := B2.out (l2)[k] (List.getElem_mem hl1)
    have HS : Hid ((l2.take (k + 1)).map (· / 2) = (l2.take k).map (· / 2) ++ [(l2)[k] / 2]) := Lib.hid (by rw [List.take_add_one, List.map_append, List.getElem?_eq_getElem hl1]; rfl)
    have HL : Hid (((l2.take k).map (· / 2)).length + 1 < 100000000000) := Lib.hid (by simp; omega)
    generalize (l2.take k).map (· / 2) = done at *
    generalize (l2)[k] = X at *
    go_wp2_with (at_builtin; refine app_u _ rfl _ _ rfl W2.heap.size _ _ done [X / 2] rfl rfl ?c0 (one_u _ _ rfl) HL.out ?c1 ?c2)
    case c0 => exact ho.out.tr (by (repeat (first | with_reducible exact Below.refl _ _ | with_reducible refine kp_alloc ?_ _ | with_reducible refine kp_drew ?_ | with_reducible refine below_drewN ?_ _ | with_reducible refine kp_set ?_ (by first | omega | (simp; done) | (simp; omega)) _ | with_reducible refine kp_tr ?_ (by with_reducible assumption))))
    case c1 => have := hb.out.size; simp; omega
    case c2 =>
    intro v' wq ho2 hg hat
    have H2' : Hid (OwnR 24 1 enU wq W2.heap.size v' ((l2.take (k + 1)).map (· / 2))) := Lib.hid (by rw [HS.out]; exact ho2)
    have H3' : Hid (Below W2.heap.size W2 wq) := Lib.hid (gr_below hg (b_alloc hb.out (Nat.le_refl _) _) (Nat.le_refl _) ho.out.block)
    clear ho2 hg hat
    go_wp2_with fail
    exact ⟨⟨k + 1, by omega, by omega, by go_num, H2', H3'⟩, by simp [intOf]; omega⟩
  have HKL : Hid ((l2.take k).map (· / 2) = (l2.take 20).map (· / 2)) := Lib.hid (by
    rcases (show k = l2.length ∨ k = 20 by omega) with h | h
    · rw [List.take_of_length_le (by omega), List.take_of_length_le (by omega)]
    · rw [h])
  rw [HKL.out] at ho
  go_upto_region 10 with (fail)
  go_cut [43] (fun v wx => v = .bool false ∧ wx = wr)
  case first =>
    go_wp2_with fail
    all_goals (try simp only [decide_eq_true_eq, decide_eq_false_iff_not] at *)
    all_goals first
      | (exfalso; omega)
      | (go_meet; first | exact ⟨rfl, rfl⟩ | exact ⟨congrArg Value.bool (decide_eq_false (by omega)), rfl⟩)
  case rest =>
  obtain ⟨rfl, hwc⟩ := hcut
  subst hwc
  go_wp2_with fail
  generalize wc = W3 at *
  have HOB := Lib.hid (ho.out.sees enU_len)
  have HOB0 := ho
  have HOA3 := Lib.hid ((HOA.out.sees enU_len).tr hb.out)
  have HOA4 := Lib.hid (HOA.out.tr hb.out)
  have HW3 : Hid (Below w.heap.size w W3) := Lib.hid (HW2.out.trans (hb.out.mono HW2.out.size))
  have HZ3 : Hid (0 < W3.heap.size) := Lib.hid (Nat.lt_of_lt_of_le HZ2.out hb.out.size)
  have HB := Lib.hid (halves B2.out 20)
  have HLB : Hid (((l2.take 20).map (· / 2)).length ≤ 20) := Lib.hid (by simp; omega)
  generalize (l2.take 20).map (· / 2) = B at *
  clear ho hb HW2 hk hk2 HKL hlt H2 B2 HOA
  have HPA : Hid (∀ W, Below W3.heap.size W3 W → Calls Try.prog 6 #[u6] W fun e w' => (∃ u, e = .returned u ∧ OwnR 24 1 enU w' W.heap.size u (ptrsV A)) ∧ Below W.heap.size W w') := Lib.hid fun W hb => pointers_any u6 A W (HOA3.out.tr hb) HA.out HLA.out
  have HPB : Hid (∀ W, Below W3.heap.size W3 W → Calls Try.prog 6 #[u7] W fun e w' => (∃ u, e = .returned u ∧ OwnR 24 1 enU w' W.heap.size u (ptrsV B)) ∧ Below W.heap.size W w') := Lib.hid fun W hb => pointers_any u7 B W (HOB.out.tr hb) HB.out HLB.out
  have HRF : Hid (∀ (W : World) (u : Value) (Z : List Int), 0 < W.heap.size → (∀ x ∈ Z, 0 ≤ x ∧ x < 9223372036854775808) → Z.length ≤ 40 → RIn 1 enU W u (ptrsV Z) → Calls Try.prog 5 #[u] W fun e w' => e = .returned (.tuple #[.string (strB (rowN (Z.map Int.toNat))), .int .i64 0]) ∧ Below W.heap.size W w') := Lib.hid fun W u Z h0 hz hl h => by
    have := refs_own u (ptrsV Z) W h (ptrs_in hz) (refs_row hz).2 h0 (by unfold ptrsV; simpa using hl)
    rw [(refs_row hz).1] at this
    exact this
  have HRA : Hid (∀ W, Below W3.heap.size W3 W → Calls Try.prog 7 #[u6] W fun e w' => e = .returned (.string (strB (rowN (A.map Int.toNat)))) ∧ Below W.heap.size W w') := Lib.hid fun W hb => row_own_any u6 A W w1.heap.size (HOA4.out.tr hb) (fun x hx => by have := HA.out x hx; omega) (by have := HLA.out; omega)
  have HRB : Hid (∀ W, Below W3.heap.size W3 W → Calls Try.prog 7 #[u7] W fun e w' => e = .returned (.string (strB (rowN (B.map Int.toNat)))) ∧ Below W.heap.size W w') := Lib.hid fun W hb => row_own_any u7 B W W2.heap.size (HOB0.out.tr hb) (fun x hx => by have := HB.out x hx; omega) (by have := HLB.out; omega)
  have HAB : Hid (∀ x ∈ A ++ B, 0 ≤ x ∧ x < 9223372036854775808) := Lib.hid fun x hx => by
    rcases List.mem_append.1 hx with h | h
    · exact HA.out x h
    · exact HB.out x h
  have HCAT : Hid (strB (rowN ((A ++ B).map Int.toNat)) = strB (rowN (A.map Int.toNat)) ++ strB (rowN (B.map Int.toNat))) := Lib.hid (by
    apply ByteArray.ext
    apply Array.toList_inj.1
    rw [ByteArray.data_append, Array.toList_append, ← strB_add]
    unfold rowN
    rw [List.map_append, List.flatMap_append])
  have HPC : Hid (ptrsV (A ++ B) = ptrsV A ++ ptrsV B) := Lib.hid (by unfold ptrsV; rw [List.map_append])
  have HLL : Hid ((ptrsV A).length ≤ 20 ∧ (ptrsV B).length ≤ 20) := Lib.hid ⟨by unfold ptrsV; simpa using HLA.out, by unfold ptrsV; simpa using HLB.out⟩
  have HFA : Hid (∀ (W : World) (u : Value), 0 < W.heap.size → RIn 1 enU W u (ptrsV A) → Calls Try.prog 5 #[u] W fun e w' => e = .returned (.tuple #[.string (strB (rowN (A.map Int.toNat))), .int .i64 0]) ∧ Below W.heap.size W w') := Lib.hid fun W u h0 h => HRF.out W u A h0 HA.out (by have := HLA.out; omega) h
  have HFB : Hid (∀ (W : World) (u : Value), 0 < W.heap.size → RIn 1 enU W u (ptrsV B) → Calls Try.prog 5 #[u] W fun e w' => e = .returned (.tuple #[.string (strB (rowN (B.map Int.toNat))), .int .i64 0]) ∧ Below W.heap.size W w') := Lib.hid fun W u h0 h => HRF.out W u B h0 HB.out (by have := HLB.out; omega) h
  have HFC : Hid (∀ (W : World) (u : Value), 0 < W.heap.size → RIn 1 enU W u (ptrsV A ++ ptrsV B) → Calls Try.prog 5 #[u] W fun e w' => e = .returned (.tuple #[.string (strB (rowN (A.map Int.toNat)) ++ strB (rowN (B.map Int.toNat))), .int .i64 0]) ∧ Below W.heap.size W w') := Lib.hid fun W u h0 h => by
    have := HRF.out W u (A ++ B) h0 HAB.out (by have := HLA.out; have := HLB.out; simp; omega) (by rw [HPC.out]; exact h)
    rw [HCAT.out] at this
    exact this
  clear HRF HCAT HPC
  have HSZ : Hid ((strB (rowN (A.map Int.toNat))).size ≤ 200 ∧ (strB (rowN (B.map Int.toNat))).size ≤ 200) := Lib.hid ⟨row_size HA.out HLA.out, row_size HB.out HLB.out⟩
  generalize strB (rowN (A.map Int.toNat)) = SA at *
  generalize strB (rowN (B.map Int.toNat)) = SB at *
  clear HOA3 HOB HOA4 HOB0
  have hb3 : Below W3.heap.size W3 W3 := Below.refl _ _
  have hz3 := HZ3.out
  refine (HPA.out _ hb3).mono ?_; rintro e w4 ⟨⟨x1, rfl, o1⟩, k4⟩
  have hs4 := k4.size
  have q1 := o1.sees enU_len
  go_wp2_with fail
  refine (HFA.out _ x1 (by omega) q1).mono ?_; rintro e w5 ⟨rfl, k5⟩
  have hs5 := k5.size
  have hb5 : Below W3.heap.size W3 w5 := by (repeat (first | with_reducible exact Below.refl _ _ | with_reducible refine kp_alloc ?_ _ | with_reducible refine kp_drew ?_ | with_reducible refine below_drewN ?_ _ | with_reducible refine kp_set ?_ (by first | omega | (simp; done) | (simp; omega)) _ | with_reducible refine kp_tr ?_ (by with_reducible assumption)))
  clear q1 o1 k4 k5 hb3
  go_wp2_with fail
  refine (HPB.out _ hb5).mono ?_; rintro e w6 ⟨⟨x2, rfl, o2⟩, k6⟩
  have hs6 := k6.size
  have q2 := o2.sees enU_len
  go_wp2_with fail
  refine (HFB.out _ x2 (by omega) q2).mono ?_; rintro e w7 ⟨rfl, k7⟩
  have hs7 := k7.size
  have hb7 : Below W3.heap.size W3 w7 := by (repeat (first | with_reducible exact Below.refl _ _ | with_reducible refine kp_alloc ?_ _ | with_reducible refine kp_drew ?_ | with_reducible refine below_drewN ?_ _ | with_reducible refine kp_set ?_ (by first | omega | (simp; done) | (simp; omega)) _ | with_reducible refine kp_tr ?_ (by with_reducible assumption)))
  clear q2 o2 k6 k7 hb5
  go_wp2_with fail
  refine (HPA.out _ hb7).mono ?_; rintro e w8 ⟨⟨x3, rfl, o3⟩, k8⟩
  have hs8 := k8.size
  have q3 := o3.sees enU_len
  have hb8 : Below W3.heap.size W3 w8 := by (repeat (first | with_reducible exact Below.refl _ _ | with_reducible refine kp_alloc ?_ _ | with_reducible refine kp_drew ?_ | with_reducible refine below_drewN ?_ _ | with_reducible refine kp_set ?_ (by first | omega | (simp; done) | (simp; omega)) _ | with_reducible refine kp_tr ?_ (by with_reducible assumption)))
  clear hb7 k8
  go_wp2_with (at_builtin; refine app_u _ rfl _ _ rfl W3.heap.size _ _ [] (ptrsV A) rfl rfl (OwnR.nil _ _) q3 ?c0 ?c1 ?c2)
  case c0 => have := HLL.out.1; simp; omega
  case c1 => omega
  case c2 =>
  intro v9 w9 o9 hg9 hat9
  have hs9 := hg9.size
  have hb9 : Below W3.heap.size W3 w9 := gr_below hg9 hb8 (Nat.le_refl _) (fun k hk => by cases hk)
  clear hg9 hat9 q3 o3 hb8
  go_wp2_with fail
  refine (HPB.out _ hb9).mono ?_; rintro e w10 ⟨⟨x4, rfl, o4⟩, k10⟩
  have hs10 := k10.size
  have q4 := o4.sees enU_len
  have hb10 : Below W3.heap.size W3 w10 := by (repeat (first | with_reducible exact Below.refl _ _ | with_reducible refine kp_alloc ?_ _ | with_reducible refine kp_drew ?_ | with_reducible refine below_drewN ?_ _ | with_reducible refine kp_set ?_ (by first | omega | (simp; done) | (simp; omega)) _ | with_reducible refine kp_tr ?_ (by with_reducible assumption)))
  have o10 := o9.tr k10
  clear hb9 k10 o9 o4
  go_wp2_with (at_builtin; refine app_u _ rfl _ _ rfl W3.heap.size _ _ (ptrsV A) (ptrsV B) rfl rfl o10 q4 ?c0 ?c1 ?c2)
  case c0 => have := HLL.out; simp; omega
  case c1 => omega
  case c2 =>
  intro v11 w11 o11 hg11 hat11
  have hs11 := hg11.size
  have hb11 : Below W3.heap.size W3 w11 := gr_below hg11 hb10 (Nat.le_refl _) o10.block
  have q5 := o11.sees enU_len
  clear hg11 hat11 q4 o10 hb10 o11
  go_wp2_with fail
  refine (HFC.out _ v11 (by omega) q5).mono ?_; rintro e w12 ⟨rfl, k12⟩
  have hb12 : Below W3.heap.size W3 w12 := by (repeat (first | with_reducible exact Below.refl _ _ | with_reducible refine kp_alloc ?_ _ | with_reducible refine kp_drew ?_ | with_reducible refine below_drewN ?_ _ | with_reducible refine kp_set ?_ (by first | omega | (simp; done) | (simp; omega)) _ | with_reducible refine kp_tr ?_ (by with_reducible assumption)))
  clear hb11 k12 q5
  go_wp2_with fail
  refine (HRA.out _ hb12).mono ?_; rintro e w13 ⟨rfl, k13⟩
  have hb13 : Below W3.heap.size W3 w13 := by (repeat (first | with_reducible exact Below.refl _ _ | with_reducible refine kp_alloc ?_ _ | with_reducible refine kp_drew ?_ | with_reducible refine below_drewN ?_ _ | with_reducible refine kp_set ?_ (by first | omega | (simp; done) | (simp; omega)) _ | with_reducible refine kp_tr ?_ (by with_reducible assumption)))
  go_wp2_with fail
  refine (HRB.out _ hb13).mono ?_; rintro e w14 ⟨rfl, k14⟩
  have hb14 : Below W3.heap.size W3 w14 := by (repeat (first | with_reducible exact Below.refl _ _ | with_reducible refine kp_alloc ?_ _ | with_reducible refine kp_drew ?_ | with_reducible refine below_drewN ?_ _ | with_reducible refine kp_set ?_ (by first | omega | (simp; done) | (simp; omega)) _ | with_reducible refine kp_tr ?_ (by with_reducible assumption)))
  have hw14 : Below w.heap.size w w14 := HW3.out.trans (hb14.mono HW3.out.size)
  clear k13 k14 hb12 hb13
  have hSZ := HSZ.out
  go_wp2_with fail
  all_goals first
    | (exfalso; omega)
    | (go_ret; exact ⟨rfl, hw14⟩)
    | trace_state
theorem parts_law (v1 : Value) (l1 : List Int) (v2 : Value) (l2 : List Int) (w : World) (h1 : RIn 1 enU w v1 l1 ∧ ∀ x ∈ l1, 0 ≤ x ∧ x < 18446744073709551616) (h2 : RIn 1 enU w v2 l2 ∧ ∀ x ∈ l2, 0 ≤ x ∧ x < 18446744073709551616) :
    Calls Try.prog 3 #[v1, v2] w fun e w' => e = .returned (.bool true) ∧ Below w.heap.size w w' := parts_walk v1 v2 l1 l2 w h1.1 h2.1 h1.2 h2.2
end Go.Proofs.Ytpgjploaliefdaa.im

namespace Go.Proofs.Ytpgjploaliefdaa.imagePartsLaw
open Go.Proofs.Ytpgjploaliefdaa
open Go.ChangeShapes Go.WideShapes Go.ChangeAt Go.RowKit Go.Joins
open Go.ChangeMaps (open_string shut_string)
set_option linter.unusedVariables false
set_option linter.unusedSimpArgs false

theorem own : ownKnob Try.prog.godebug = none := by kernel_rfl
theorem laidOut : laidOutB Try.prog = true := by kernel_rfl

set_option maxRecDepth 100000 in
theorem lifted (os : Os) (started : os.Started) (H : Type) (enc : TypeId × Value → H) :
    ReturnsInHanded {} Try.checked os 3 .any (Rows.imagePartsSpec.pre6 enc Try.prog Try.f3 Rows.imagePartsRow.domain false) (Rows.imagePartsSpec.post enc Try.prog Try.f3 false true false false) := by
  refine returnsInHanded_of_change (C := Try.checked) own started (by kernel_rfl) Try.func3
    (ChangeSpec.witness6 (enc := enc) (C := Try.checked) false ⟨#[], #[.slice none 0 0, .slice none 0 0], []⟩ 8 (by kernel_rfl) (by kernel_rfl) (by kernel_rfl) (by kernel_rfl)) ?_
  intro W base args ds gs before hval0 hW hcnd _
  have hval : ∀ (j : Nat) t v, Try.f3.params[j]? = some t → args[j]? = some v → Value.okWide Try.prog W .any base t v := hval0
  have hW' := hW
  obtain ⟨p, q, hA0, hV, rfl, hfz, hnd⟩ := hW
  have hA : DataW.TrodAll enc Try.prog W 0 (fun _ => true) true Try.f3.params.toList args.toList ds p := hA0
  rw [Try.params3] at hA hval
  obtain ⟨v0, vs0, d0, ds0, p0, q0, hargs, rfl, rfl, h0, r0⟩ := trodAll_cons hA
  obtain ⟨v1, vs1, d1, ds1, p1, q1, rfl, rfl, rfl, h1, r1⟩ := trodAll_cons r0
  obtain ⟨rfl, rfl, rfl⟩ := trodAll_nil r1
  obtain rfl : args = #[v0, v1] := by cases args; simp_all
  obtain ⟨rfl, rfl⟩ := trodVars_none hV
  have k0 := h0
  have lt0 : ∀ x ∈ p0, x.block < W.heap.size := by obtain ⟨m, hm⟩ := k0; exact DataW.trod_lt m _ _ _ hm
  have k1 := h1
  have lt1 : ∀ x ∈ p1, x.block < W.heap.size := by obtain ⟨m, hm⟩ := k1; exact DataW.trod_lt m _ _ _ hm
  obtain ⟨a0, w0⟩ := lx.nums_arg Try.underlying22 Try.underlying24 (by kernel_rfl) (hval 0 22 v0 rfl rfl) h0
  obtain ⟨a1, w1⟩ := lx.nums_arg Try.underlying22 Try.underlying24 (by kernel_rfl) (hval 1 22 v1 rfl rfl) h1
  clear hA0 hval0
  refine (im.parts_law v0 a0 v1 a1 W w0 w1).mono fun e W' ⟨he, bel⟩ => ?_
  subst he
  exact ⟨_, rfl, _, _, _, [], _, [], hW', trodAll_mk1 (shut_bool Try.underlying4 _), (trodAll_cons_mk (Below.trod laidOut (by kernel_rfl) (of_decide_eq_true (by kernel_rfl)) k0 bel lt0) (trodAll_cons_mk (Below.trod laidOut (by kernel_rfl) (of_decide_eq_true (by kernel_rfl)) k1 bel lt1) trodAll_mk0)), rfl, bel.frame _, fun h => by cases h⟩

theorem over : Rows.imagePartsRow.holds Try.pinned (OpenSpec.ofChange Rows.imagePartsSpec) :=
  OpenClaim.holds_of_wide 3 Try.f3 rfl rfl rfl rfl rfl rfl rfl ⟨rfl, rfl, rfl, rfl, rfl⟩ rfl rfl rfl rfl rfl (by kernel_rfl) Try.func3 (by kernel_rfl)
    (of_decide_eq_true (by kernel_rfl)) (by unfold Func.isWrapper; first | (rw [if_pos (by decide +kernel)]; kernel_rfl) | (rw [if_neg (by decide +kernel)]; exact ⟨rfl, rfl⟩))
    (fun os started H enc _ => lifted os started H enc)

theorem proved : Rows.ImagePartsSaid := over
end Go.Proofs.Ytpgjploaliefdaa.imagePartsLaw
