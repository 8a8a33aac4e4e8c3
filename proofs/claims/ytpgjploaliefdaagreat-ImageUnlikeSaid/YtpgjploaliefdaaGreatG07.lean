/- The laws' awake. No conditions. -/
import Derived.Test.YtpgjploaliefdaaGreatG06
namespace Go.Proofs.YtpgjploaliefdaaGreat.ob
open Go.RowKit hd
set_option linter.unusedVariables false
set_option linter.unusedSimpArgs false
theorem small_of {ys : List Int} (h : ∀ x ∈ ys, 0 ≤ x ∧ x < 18446744073709551616) : Small ys := fun i => by
 by_cases e : i < ys.length
 ·have := h ys[i] (List.getElem_mem e)
  simpa [List.getD, e] using this
 ·simp [List.getD, List.getElem?_eq_none (Nat.le_of_not_lt e)]
theorem walk_in (v : Value) (zs : List Int) (w : World) (h : NumsIn w v zs) (hz : Small zs) :
  Calls Tryz.prog 107 #[v] w fun e W' => WalkedAs (w.heap.size + 6) (walkF bgN zs zs.length (zs.length + 1) 0 0 []) e W' ∧ Below w.heap.size w W' := by
 obtain ⟨ad, b, off, cap, rfl, ⟨a1, a2⟩, a3, a4, a5, a6⟩ := h
 exact Walk_any b off _ cap ad zs a1 a3 a4 hz w a6
def ShapesIn (W : World) (v : Value) (ss : List (Int × Int)) : Prop := ∃ (ad : Option Addr) (b off cap : Nat), v = .slice ad ss.length cap ∧ ((0 < ss.length → ad = some ⟨b, off, none⟩) ∧ (ad = none → cap = 0)) ∧ ss.length ≤ cap ∧ (cap < 9223372036854775808 ∧ ss.length < 1000000000000) ∧ b < W.heap.size ∧ ShapesAt W b off ss.length ss
theorem ShapesIn.tr {W w : World} {v : Value} {zs : List (Int × Int)} (h : ShapesIn W v zs) (hb : Below W.heap.size W w) : ShapesIn w v zs := by
 obtain ⟨ad, b, off, cap, e, h1, h2, h3, h4, h5⟩ := h
 exact ⟨ad, b, off, cap, e, h1, h2, h3, Nat.lt_of_lt_of_le h4 hb.size, h5.block (hb.block b h4)⟩
theorem ShapesIn.nil {W : World} (h : 0 < W.heap.size) : ShapesIn W (.slice none 0 0) [] := ⟨none, 0, 0, 0, rfl, ⟨fun h => by simp at h, fun _ => rfl⟩, Nat.le_refl _, by simp, h, ShapesAt.none _ _ _ _⟩
def oldF (zs : List Int) (ss : List (Int × Int)) : Res := oldRes ss.length (walkF (bgO ss.length ss) zs zs.length (zs.length + 1) 0 0 [])
def newF (zs : List Int) : Res := walkF bgN zs zs.length (zs.length + 1) 0 0 []
theorem walkold_in (v u : Value) (zs : List Int) (ss : List (Int × Int)) (w : World) (h : NumsIn w v zs) (hz : Small zs) (hs : ShapesIn w u ss) :
  Calls Tryz.prog 109 #[v, u] w fun e W' => (∃ B, w.heap.size ≤ B ∧ WalkedAs B (oldF zs ss) e W') ∧ Below w.heap.size w W' := by
 obtain ⟨ad, b, off, cap, rfl, ⟨a1, a2⟩, a3, a4, a5, a6⟩ := h
 obtain ⟨ad', b', off', cap', rfl, ⟨a1', a2'⟩, a3', a4', a5', a6'⟩ := hs
 exact WalkOld_any b off _ cap ad zs a1 a3 a4 hz b' off' _ cap' ad' ss a1' (by omega) w a6 a6' a5 a5'
theorem obs_form {W : World} {B : Nat} {v : Value} {l : List Ob} (h : ObsAt W B v l) : ∃ va vc, v = .slice va l.length vc := by
 rcases h.2 with ⟨rfl, h1⟩ | ⟨g, cap, cur, rfl, _⟩
 ·rw [h1]; exact ⟨_, _, rfl⟩
 ·exact ⟨_, _, rfl⟩
theorem obs_tr {W w : World} {B : Nat} {v : Value} {l : List Ob} (h : ObsAt W B v l) (hb : Below W.heap.size W w) : ObsAt w B v l := by
 refine World.ownsRow.kept h (below_grown hb none) ?_
 rcases hv : v.ownBlock with _ | k
 ·exact .inl rfl
 ·exact .inr (fun e => by cases e)
theorem flatO_get (l : List Ob) (i j : Nat) (hi : i < l.length) (hj : j < 5) : (flatO l)[i * 5 + j]? = (obCells (obD l i))[j]? := by
 induction l generalizing i with
 | nil => simp at hi
 | cons o l ih =>
  cases i with
  | zero =>
   simp only [flatO, Nat.zero_mul, Nat.zero_add]
   rw [List.getElem?_append_left (by simp [obCells]; omega)]
   rfl
  | succ i =>
   simp only [flatO]
   rw [List.getElem?_append_right (by simp [obCells]; omega)]
   have : (i + 1) * 5 + j - (obCells o).length = i * 5 + j := by simp [obCells]; omega
   rw [this, ih i (by simpa using hi)]
   rfl
theorem obs_sees {W : World} {B : Nat} {v : Value} {l : List Ob} (h : ObsAt W B v l) (h0 : 0 < W.heap.size) (hl : l.length < 1000000000000) : ObjsIn W v l := by
 rcases h.2 with ⟨rfl, h1⟩ | ⟨g, cap, cur, rfl, h1, h2, h3, h4, h5, h6⟩
 ·have hz : l = [] := List.eq_nil_of_length_eq_zero h1
  subst hz
  exact ObjsIn.nil h0
 ·refine ⟨some ⟨g, 0, none⟩, g, 0, cap, rfl, ⟨fun _ => rfl, fun e => by cases e⟩, h3, ⟨by unfold maxLen at h4; omega, hl⟩, ?_, ObjsAt.of fun i hi => ?_⟩
  ·rcases Nat.lt_or_ge g W.heap.size with h7 | h7
   ·exact h7
   ·rw [Array.getElem?_eq_none h7] at h2; cases h2
  ·have key : ∀ j u, j < 5 → (obCells (obD l i))[j]? = some u → W.cell? ⟨g, 0 + i * 5 + j, none⟩ = some u := by
    intro j u hj hu
    have h7 := World.ownsRow.cells h (g := g) rfl (i * 5 + j) u (by rw [flatO_get l i j hi hj]; exact hu)
    have e : (⟨g, 0, none⟩ : Addr).add (i * 5 + j) = ⟨g, 0 + i * 5 + j, none⟩ := by unfold Addr.add; split <;> simp_all
    rw [e] at h7
    exact h7
   exact ⟨key 0 _ (by omega) rfl, key 1 _ (by omega) rfl, key 2 _ (by omega) rfl, key 3 _ (by omega) rfl, key 4 _ (by omega) rfl⟩
theorem words_lit (w : World) (xs : List Int) (b : Nat) (h : Blk w b (xs.map (fun n : Int => Value.int .u64 n)).toArray 24) (n : Nat) (hn : n ≤ xs.length) (h0 : 0 < n) (hl : xs.length < 1000000) : NumsIn w (.slice (some ⟨b, 0, none⟩) n xs.length) (xs.take n) := by
 obtain ⟨lb, cb, fb⟩ := h.get
 have hlen : (xs.take n).length = n := by simp; omega
 refine ⟨some ⟨b, 0, none⟩, b, 0, xs.length, by rw [hlen], ⟨fun _ => rfl, fun e => by cases e⟩, by omega, by omega, lb, words_of fun i hi => ?_⟩
 rw [cb (0 + i), hlen] at *
 have hi2 : i < xs.length := by omega
 simp [List.getD, List.getElem?_take, hi2]
 rw [if_pos (by omega)]
 simp
end Go.Proofs.YtpgjploaliefdaaGreat.ob
namespace Go.Proofs.YtpgjploaliefdaaGreat.ob
open Go.RowKit hd
set_option linter.unusedVariables false
set_option linter.unusedSimpArgs false
structure Pc where
 h : Int
 s : Nat
 p : Nat
 g : Bool
 ys : List Int
def wordsOf (l : List Pc) : List Int := l.flatMap fun c => c.h :: c.ys
def shapesOf (l : List Pc) : List (Int × Int) := (l.filter fun c => c.g).map fun c => ((c.s : Int), (c.p : Int))
theorem un_pack {s p : Nat} (hs : s ≤ 255) (hp : p ≤ s) : unOk (packV s p) = true ∧ unS (packV s p) = s ∧ unP (packV s p) = p := by
 have hr : rightB s p = true := rightB_mk (by omega)
 have he : packV s p = 2 * s + 131072 * p := by simp [packV, hr]
 have h1 : (2 * (s : Int) + 131072 * p) / 2 % 65536 = s := by omega
 have h2 : (2 * (s : Int) + 131072 * p) / 131072 = p := by omega
 have ho : unOk (packV s p) = true := by
  rw [he]; unfold unOk; rw [h1, h2, hr]; simp; omega
 refine ⟨ho, ?_, ?_⟩
 ·unfold unS; rw [if_pos ho, he, h1]
 ·unfold unP; rw [if_pos ho, he, h2]
structure PcGood (c : Pc) : Prop where
 len : c.ys.length = c.s
 s6 : c.s ≤ 255
 ps : c.p ≤ c.s
 small : Small c.ys
 new : c.g = false → c.h = packV c.s c.p ∧ ptrsOk c.ys c.p
 gone : c.g = true → ∃ t : Int, 1 ≤ t ∧ t < 9223372036854775808 ∧ c.h = 2 * t + 1 ∧ c.ys = List.replicate c.s 0
def Good (l : List Pc) : Prop := ∀ c ∈ l, PcGood c
def obOf (pos : Nat) (c : Pc) : Ob := ⟨pos, c.s, c.p, c.g, if c.g then adV c.h else 0⟩
def obsAt (pos : Nat) : List Pc → List Ob
 | [] => []
 | c :: l => obOf pos c :: obsAt (pos + 1 + c.s) l
theorem wordsOf_cons (c : Pc) (l : List Pc) : wordsOf (c :: l) = c.h :: (c.ys ++ wordsOf l) := by simp [wordsOf]
theorem wordsOf_app (l m : List Pc) : wordsOf (l ++ m) = wordsOf l ++ wordsOf m := by simp [wordsOf]
theorem shapesOf_app (l m : List Pc) : shapesOf (l ++ m) = shapesOf l ++ shapesOf m := by simp [shapesOf]
theorem obsAt_app (l m : List Pc) (hl : Good l) : ∀ pos, obsAt pos (l ++ m) = obsAt pos l ++ obsAt (pos + (wordsOf l).length) m := by
 induction l with
 | nil => intro pos; simp [obsAt, wordsOf]
 | cons c l ih =>
  intro pos
  have hc := (hl c List.mem_cons_self).len
  simp only [List.cons_append, obsAt, wordsOf_cons, List.length_cons, List.length_append, hc]
  rw [ih (fun d hd => hl d (List.mem_cons_of_mem _ hd))]
  rw [show pos + 1 + c.s + (wordsOf l).length = pos + (c.s + (wordsOf l).length + 1) from by omega]
theorem obsAt_len (l : List Pc) : ∀ pos, (obsAt pos l).length = l.length := by
 induction l with
 | nil => intro pos; rfl
 | cons c l ih => intro pos; simp [obsAt, ih]
def LiesAt (zs : List Int) (pos : Nat) (ws : List Int) : Prop := ∀ j, j < ws.length → zs.getD (pos + j) 0 = ws.getD j 0
theorem lies_mid (a b c : List Int) : LiesAt (a ++ b ++ c) a.length b := by
 intro j hj
 simp only [List.getD]
 rw [List.getElem?_append_left (by simp; omega), List.getElem?_append_right (by omega)]
 congr 2
 omega
theorem lies_head {zs : List Int} {pos : Nat} {c : Pc} {l : List Pc} (h : LiesAt zs pos (wordsOf (c :: l))) : zs.getD pos 0 = c.h := by
 have := h 0 (by rw [wordsOf_cons]; simp)
 rw [wordsOf_cons] at this
 simpa using this
theorem lies_slot {zs : List Int} {pos : Nat} {c : Pc} {l : List Pc} (h : LiesAt zs pos (wordsOf (c :: l))) {i : Nat} (hi : i < c.ys.length) : zs.getD (pos + 1 + i) 0 = c.ys.getD i 0 := by
 have := h (i + 1) (by rw [wordsOf_cons]; simp; omega)
 rw [wordsOf_cons] at this
 rw [show pos + 1 + i = pos + (i + 1) from by omega, this]
 simp only [List.getD, List.getElem?_cons_succ]
 rw [List.getElem?_append_left hi]
theorem lies_tail {zs : List Int} {pos : Nat} {c : Pc} {l : List Pc} (hc : c.ys.length = c.s) (h : LiesAt zs pos (wordsOf (c :: l))) : LiesAt zs (pos + 1 + c.s) (wordsOf l) := by
 intro j hj
 have := h (1 + c.s + j) (by rw [wordsOf_cons]; simp; omega)
 rw [wordsOf_cons] at this
 rw [show pos + 1 + c.s + j = pos + (1 + c.s + j) from by omega, this]
 simp only [List.getD]
 rw [show 1 + c.s + j = (c.s + j) + 1 from by omega, List.getElem?_cons_succ, List.getElem?_append_right (by omega)]
 congr 2
 omega
theorem bgN_new {c : Pc} (hc : PcGood c) (hg : c.g = false) (k pos : Nat) : bgN k pos c.h = some (obOf pos c, k) := by
 obtain ⟨h1, h2, h3⟩ := un_pack (s := c.s) (p := c.p) (by have := hc.s6; omega) hc.ps
 unfold bgN obOf
 rw [(hc.new hg).1, if_pos h1, h2, h3, hg]
 rfl
theorem pack_even {s p : Nat} (hs : s ≤ 255) (hp : p ≤ s) : packV s p % 2 = 0 := by
 have hr : rightB s p = true := rightB_mk (by omega)
 have he : packV s p = 2 * s + 131072 * p := by simp [packV, hr]
 omega
theorem adE_odd {t : Int} (h : 1 ≤ t) : adE (2 * t + 1) = 0 ∧ adV (2 * t + 1) = t := by
 unfold adE adV
 rw [if_neg (by omega), if_neg (by omega), if_neg (by omega)]
 exact ⟨rfl, by omega⟩
theorem adE_ev {x : Int} (h : x % 2 = 0) : adE x ≠ 0 := by
 unfold adE
 split
 ·decide
 ·rw [if_pos (.inl h)]; decide
theorem bgO_new {c : Pc} (hc : PcGood c) (hg : c.g = false) (n : Nat) (ss : List (Int × Int)) (k pos : Nat) : bgO n ss k pos c.h = some (obOf pos c, k) := by
 have he : c.h % 2 = 0 := by rw [(hc.new hg).1]; exact pack_even (by have := hc.s6; omega) hc.ps
 unfold bgO
 rw [if_neg (adE_ev he)]
 exact bgN_new hc hg k pos
theorem bgO_gone {c : Pc} (hc : PcGood c) (hg : c.g = true) {n : Nat} {ss : List (Int × Int)} {k : Nat} (pos : Nat) (hk : k < n) (hs : ss.getD k (0, 0) = ((c.s : Int), (c.p : Int))) : bgO n ss k pos c.h = some (obOf pos c, k + 1) := by
 obtain ⟨t, h1, h2, h3, h4⟩ := hc.gone hg
 have hr : rightB c.s c.p = true := rightB_mk (by have := hc.s6; have := hc.ps; omega)
 unfold bgO obOf
 rw [h3, if_pos (adE_odd h1).1, hs, if_pos ⟨hk, hr⟩, hg]
 rfl
theorem slots_good {c : Pc} (hc : PcGood c) {zs : List Int} {pos : Nat} {l : List Pc} (h : LiesAt zs pos (wordsOf (c :: l))) : slotsB (obOf pos c) zs c.s = true := by
 rw [slotsB_iff]
 intro i hi
 have h1 := lies_slot h (i := i) (by rw [hc.len]; exact hi)
 have e : (obOf pos c).pos.toNat + 1 + i = pos + 1 + i := by simp [obOf]
 rw [e, h1]
 rcases Bool.eq_false_or_eq_true c.g with hg | hg
 ·obtain ⟨t, _, _, _, h4⟩ := hc.gone hg
  have h5 : c.ys.getD i 0 = 0 := by
   rw [h4]
   simp only [List.getD, List.getElem?_replicate]
   split <;> rfl
  rw [h5]
  simp [slotOk, obOf, hg]
 ·obtain ⟨_, h2⟩ := hc.new hg
  by_cases hip : i < c.p
  ·rw [slotOk, h2 i hip]; simp [obOf, hg]
  ·have : decide ((i : Int) < (obOf pos c).p) = false := decide_eq_false (by simp only [obOf]; omega)
   rw [slotOk, this]; simp [obOf, hg]
theorem step_good {bg : Nat → Nat → Int → Option (Ob × Nat)} {c : Pc} (hc : PcGood c) {zs : List Int} {len f k k' pos : Nat} {acc : List Ob} {l : List Pc} (h : LiesAt zs pos (wordsOf (c :: l))) (hlen : pos + 1 + c.s ≤ len) (hb : bg k pos c.h = some (obOf pos c, k')) :
  walkF bg zs len (f + 1) k pos acc = walkF bg zs len f k' (pos + 1 + c.s) (acc ++ [obOf pos c]) := by
 rw [walkF_step (by omega), lies_head h, hb]
 have hs := slots_good hc h
 have e : (obOf pos c).s.toNat = c.s := by simp [obOf]
 simp only [e]
 rw [if_neg (by omega), if_pos hs]
theorem walk_new {l : List Pc} : ∀ {zs : List Int} {len f k pos : Nat} {acc : List Ob}, Good l → (∀ c ∈ l, c.g = false) → LiesAt zs pos (wordsOf l) → pos + (wordsOf l).length ≤ len →
  walkF bgN zs len (f + l.length) k pos acc = walkF bgN zs len f k (pos + (wordsOf l).length) (acc ++ obsAt pos l) := by
 induction l with
 | nil => intro zs len f k pos acc _ _ _ _; simp [wordsOf, obsAt]
 | cons c l ih =>
  intro zs len f k pos acc hg hn hz hl
  have hc := hg c List.mem_cons_self
  have hw : (wordsOf (c :: l)).length = 1 + c.s + (wordsOf l).length := by rw [wordsOf_cons]; simp [hc.len]; omega
  rw [show f + (c :: l).length = (f + l.length) + 1 from by simp; omega]
  rw [step_good hc hz (by omega) (bgN_new hc (hn c List.mem_cons_self) k pos)]
  rw [ih (fun d hd => hg d (List.mem_cons_of_mem _ hd)) (fun d hd => hn d (List.mem_cons_of_mem _ hd)) (lies_tail hc.len hz) (by omega)]
  rw [hw]
  simp only [obsAt, List.append_assoc, List.singleton_append]
  rw [show pos + 1 + c.s + (wordsOf l).length = pos + (1 + c.s + (wordsOf l).length) from by omega]
theorem walk_old {l : List Pc} : ∀ {zs : List Int} {len f k pos n : Nat} {ss : List (Int × Int)} {acc : List Ob}, Good l → LiesAt zs pos (wordsOf l) → pos + (wordsOf l).length ≤ len → (∀ j, j < (shapesOf l).length → ss.getD (k + j) (0, 0) = (shapesOf l).getD j (0, 0)) → k + (shapesOf l).length ≤ n →
  walkF (bgO n ss) zs len (f + l.length) k pos acc = walkF (bgO n ss) zs len f (k + (shapesOf l).length) (pos + (wordsOf l).length) (acc ++ obsAt pos l) := by
 induction l with
 | nil => intro zs len f k pos n ss acc _ _ _ _ _; simp [wordsOf, obsAt, shapesOf]
 | cons c l ih =>
  intro zs len f k pos n ss acc hg hz hl hs hn
  have hc := hg c List.mem_cons_self
  have hw : (wordsOf (c :: l)).length = 1 + c.s + (wordsOf l).length := by rw [wordsOf_cons]; simp [hc.len]; omega
  rw [show f + (c :: l).length = (f + l.length) + 1 from by simp; omega]
  cases hcg : c.g with
  | false =>
   have hsh : shapesOf (c :: l) = shapesOf l := by simp [shapesOf, hcg]
   rw [hsh] at hs hn
   rw [step_good hc hz (by omega) (bgO_new hc hcg n ss k pos)]
   rw [ih (fun d hd => hg d (List.mem_cons_of_mem _ hd)) (lies_tail hc.len hz) (by omega) hs hn]
   rw [hw, hsh]
   simp only [obsAt, List.append_assoc, List.singleton_append]
   rw [show pos + 1 + c.s + (wordsOf l).length = pos + (1 + c.s + (wordsOf l).length) from by omega]
  | true =>
   have hsh : shapesOf (c :: l) = ((c.s : Int), (c.p : Int)) :: shapesOf l := by simp [shapesOf, hcg]
   rw [hsh] at hs hn
   simp only [List.length_cons] at hs hn
   have h0 := hs 0 (by omega)
   simp at h0
   rw [step_good hc hz (by omega) (bgO_gone hc hcg pos (by omega) (by simpa [List.getD] using h0))]
   rw [ih (fun d hd => hg d (List.mem_cons_of_mem _ hd)) (lies_tail hc.len hz) (by omega) (fun j hj => by
    have := hs (j + 1) (by omega)
    rw [show k + 1 + j = k + (j + 1) from by omega, this]
    simp [List.getD]) (by omega)]
   rw [hw, hsh]
   simp only [obsAt, List.append_assoc, List.singleton_append, List.length_cons]
   rw [show pos + 1 + c.s + (wordsOf l).length = pos + (1 + c.s + (wordsOf l).length) from by omega, show k + 1 + (shapesOf l).length = k + ((shapesOf l).length + 1) from by omega]
theorem len_words {l : List Pc} : l.length ≤ (wordsOf l).length := by
 induction l with
 | nil => simp
 | cons c l ih => rw [wordsOf_cons]; simp; omega
theorem new_all {l : List Pc} (hg : Good l) (hn : ∀ c ∈ l, c.g = false) : newF (wordsOf l) = .ok (obsAt 0 l) 0 := by
 unfold newF
 have hl := len_words (l := l)
 rw [show (wordsOf l).length + 1 = ((wordsOf l).length + 1 - l.length) + l.length from by omega]
 rw [walk_new hg hn (fun j hj => by simp) (by omega)]
 rw [show (wordsOf l).length + 1 - l.length = ((wordsOf l).length - l.length) + 1 from by omega]
 simp only [Nat.zero_add, List.nil_append]
 exact walkF_end (by omega)
theorem old_all {l : List Pc} (hg : Good l) (ex : List (Int × Int)) : oldF (wordsOf l) (shapesOf l ++ ex) = if ex = [] then .ok (obsAt 0 l) (shapesOf l).length else .err 3 (shapesOf l).length := by
 unfold oldF
 have hl := len_words (l := l)
 rw [show (wordsOf l).length + 1 = ((wordsOf l).length + 1 - l.length) + l.length from by omega]
 rw [walk_old hg (fun j hj => by simp) (by omega) (fun j hj => by
  simp only [List.getD, Nat.zero_add]
  rw [List.getElem?_append_left hj]) (by simp)]
 rw [show (wordsOf l).length + 1 - l.length = ((wordsOf l).length - l.length) + 1 from by omega]
 simp only [Nat.zero_add, List.nil_append]
 rw [walkF_end (by omega)]
 unfold oldRes
 by_cases h : ex = []
 ·subst h; simp
 ·have : 0 < ex.length := List.length_pos_iff.2 h
  simp only
  rw [if_pos (by simp; omega), if_neg h]
end Go.Proofs.YtpgjploaliefdaaGreat.ob
