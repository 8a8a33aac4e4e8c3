/- Images, plain: bytes that begin alike. No conditions. -/
import Derived.Test.YtpgjploaliefdaaGreatG16
import Derived.Test.YtpgjploaliefdaaGreatNf
import Derived.Test.YtpgjploaliefdaaGreatG09
namespace Go.Proofs.YtpgjploaliefdaaGreat.im
open Go Go.RowKit cm cw ga gr hp ob hd cp ck
open fr (strB putN rowN strB_size putN_10 putN_len putN_pos joinU joinR idOk bytesN_strB bytesN_inj joinR_N ofF ofF_ok toF_ofF leB leB_len leB_succ)
open fl (By joinL allL_back vt_put)
set_option linter.unusedVariables false
set_option linter.unusedSimpArgs false
theorem put_pre {a b : Nat} {x y : List Nat} (ha : a < 18446744073709551616) (hb : b < 18446744073709551616) (h : putN a ++ x = putN b ++ y) : a = b ∧ x = y := by
 have h1 := vt_put x a 0 0 (by omega) (by simpa using ha) (fun h => absurd h (by omega))
 have h2 := vt_put y b 0 0 (by omega) (by simpa using hb) (fun h => absurd h (by omega))
 rw [h, h2] at h1
 injection h1 with e1 e2
 have e : a = b := by simpa using e1.symm
 subst e
 exact ⟨rfl, List.append_cancel_left h⟩
def U64s (l : List Nat) : Prop := ∀ v ∈ l, v < 18446744073709551616
theorem row_pre : ∀ {xs ys x y : List Nat}, xs.length = ys.length → U64s xs → U64s ys → rowN xs ++ x = rowN ys ++ y → xs = ys ∧ x = y
 | [], [], x, y, _, _, _, h => ⟨rfl, h⟩
 | [], _ :: _, _, _, hl, _, _, _ => by simp at hl
 | _ :: _, [], _, _, hl, _, _, _ => by simp at hl
 | a :: xs, b :: ys, x, y, hl, ha, hb, h => by
  have e : ∀ (c : Nat) (zs z : List Nat), rowN (c :: zs) ++ z = putN c ++ (rowN zs ++ z) := fun c zs z => by unfold rowN; rw [List.flatMap_cons, List.append_assoc]
  rw [e, e] at h
  obtain ⟨rfl, h2⟩ := put_pre (ha a (by simp)) (hb b (by simp)) h
  obtain ⟨rfl, h3⟩ := row_pre (by simpa using hl) (fun v hv => ha v (by simp [hv])) (fun v hv => hb v (by simp [hv])) h2
  exact ⟨rfl, h3⟩
theorem le_mod : ∀ (n a b : Nat), leB n a = leB n b → a % 256 ^ n = b % 256 ^ n
 | 0, a, b, _ => by simp [Nat.mod_one]
 | n + 1, a, b, h => by
  rw [leB_succ, leB_succ] at h
  obtain ⟨h1, h2⟩ := List.append_inj h (by rw [leB_len, leB_len])
  have h1 := le_mod n a b h1
  have h2 : a / 256 ^ n % 256 = b / 256 ^ n % 256 := by simpa using h2
  rw [Nat.pow_succ, Nat.mod_mul, Nat.mod_mul, h1, h2]
theorem le_pre {a b : Nat} {x y : List Nat} (ha : a < 18446744073709551616) (hb : b < 18446744073709551616) (h : leB 8 a ++ x = leB 8 b ++ y) : a = b ∧ x = y := by
 obtain ⟨h1, h2⟩ := List.append_inj h (by rw [leB_len, leB_len])
 have := le_mod 8 a b h1
 rw [Nat.mod_eq_of_lt (by omega), Nat.mod_eq_of_lt (by omega)] at this
 exact ⟨this, h2⟩
def InU (l : List Int) : Prop := ∀ v ∈ l, 0 ≤ v ∧ v < 18446744073709551616
theorem words_pre : ∀ {xs ys : List Int} {x y : List Nat}, xs.length = ys.length → InU xs → InU ys → wordsN xs ++ x = wordsN ys ++ y → xs = ys ∧ x = y
 | [], [], x, y, _, _, _, h => ⟨rfl, h⟩
 | [], _ :: _, _, _, hl, _, _, _ => by simp at hl
 | _ :: _, [], _, _, hl, _, _, _ => by simp at hl
 | a :: xs, b :: ys, x, y, hl, ha, hb, h => by
  have e : ∀ (c : Int) (zs : List Int) (z : List Nat), wordsN (c :: zs) ++ z = leB 8 c.toNat ++ (wordsN zs ++ z) := fun c zs z => by unfold wordsN; rw [List.flatMap_cons, List.append_assoc]
  rw [e, e] at h
  have ha1 := ha a (by simp)
  have hb1 := hb b (by simp)
  obtain ⟨h1, h2⟩ := le_pre (by omega) (by omega) h
  obtain rfl : a = b := by omega
  obtain ⟨rfl, h3⟩ := words_pre (by simpa using hl) (fun v hv => ha v (by simp [hv])) (fun v hv => hb v (by simp [hv])) h2
  exact ⟨rfl, h3⟩
def nU (l : List UInt8) : List Nat := l.map UInt8.toNat
theorem nU_app (a b : List UInt8) : nU (a ++ b) = nU a ++ nU b := List.map_append ..
theorem nU_flat {α : Type} (f : α → List UInt8) (l : List α) : nU (l.flatMap f) = l.flatMap fun x => nU (f x) := by
 unfold nU
 rw [List.map_flatMap]
theorem nU_str {l : List Nat} (h : By l) : nU (strB l).data.toList = l := bytesN_strB h
theorem by_row (l : List Nat) : By (rowN l) := fun b hb => by
 unfold rowN at hb
 obtain ⟨v, _, h⟩ := List.mem_flatMap.1 hb
 exact By.putN v b h
theorem by_words (l : List Int) : By (wordsN l) := fun b hb => by
 unfold wordsN leB at hb
 obtain ⟨v, _, h⟩ := List.mem_flatMap.1 hb
 obtain ⟨i, _, rfl⟩ := List.mem_map.1 h
 omega
theorem nU_uP (n : Nat) : nU (uP n) = putN n := nU_str (By.putN n)
theorem nU_row (l : List Nat) : nU (uRow l) = rowN l := nU_str (by_row l)
theorem nU_words (l : List Int) : nU (uWords l) = wordsN l := nU_str (by_words l)
theorem nU_refs (l : List Int) : nU (refsU l) = rowN (l.map fun x => (adV x).toNat) := by
 unfold refsU rowN
 rw [nU_flat, List.flatMap_map]
 congr 1
 funext x
 exact nU_uP _
def objN (zs : List Int) (o : Ob) : List Nat := if o.g then rowN [1, o.t.toNat] else rowN [0, o.s.toNat, o.p.toNat] ++ rowN ((sub zs (o.pos.toNat + 1) o.p.toNat).map fun x => (adV x).toNat) ++ wordsN (sub zs (o.pos.toNat + 1 + o.p.toNat) (o.s.toNat - o.p.toNat))
theorem objN_def (zs : List Int) (o : Ob) : objN zs o = if o.g then rowN [1, o.t.toNat] else rowN [0, o.s.toNat, o.p.toNat] ++ rowN ((sub zs (o.pos.toNat + 1) o.p.toNat).map fun x => (adV x).toNat) ++ wordsN (sub zs (o.pos.toNat + 1 + o.p.toNat) (o.s.toNat - o.p.toNat)) := rfl
theorem nU_obj (zs : List Int) (o : Ob) : nU (objU zs o) = objN zs o := by
 unfold objU objN
 split
 ·exact nU_row _
 ·rw [nU_app, nU_app, nU_row, nU_refs, nU_words]
structure WOk (zs : List Int) (o : Ob) : Prop where
 pos : 0 ≤ o.pos
 new : o.g = false → zs.getD o.pos.toNat 0 = packV o.s o.p
 gone : o.g = true → zs.getD o.pos.toNat 0 = 2 * o.t + 1 ∧ 0 ≤ o.t ∧ o.t < 9223372036854775808
 slots : slotsB o zs o.s.toNat = true
theorem walkF_w {bg : Nat → Nat → Int → Option (Ob × Nat)} {zs : List Int} {len : Nat} (hz : Small zs) (hbg : ∀ k pos x o k', (0 ≤ x ∧ x < 18446744073709551616) → bg k pos x = some (o, k') → o.pos = pos ∧ (o.g = false → x = packV o.s o.p) ∧ (o.g = true → x = 2 * o.t + 1 ∧ 0 ≤ o.t ∧ o.t < 9223372036854775808)) :
  ∀ {f k pos : Nat} {acc l : List Ob} {k2 : Nat}, (∀ o ∈ acc, WOk zs o) → walkF bg zs len f k pos acc = .ok l k2 → ∀ o ∈ l, WOk zs o
 | 0, k, pos, acc, l, k2, ha, h => by cases h
 | f + 1, k, pos, acc, l, k2, ha, h => by
  by_cases hp : pos < len
  ·rw [walkF_step hp] at h
   split at h
   ·cases h
   ·rename_i o k' hb
    obtain ⟨h1, h2, h3⟩ := hbg _ _ _ _ _ (hz pos) hb
    split at h
    ·cases h
    ·split at h
     ·rename_i hsl
      refine walkF_w hz hbg (acc := acc ++ [o]) (fun o' ho' => ?_) h
      rcases List.mem_append.1 ho' with h6 | h6
      ·exact ha _ h6
      ·simp at h6
       subst h6
       have e : o'.pos.toNat = pos := by omega
       exact ⟨by omega, fun hg => by rw [e]; exact h2 hg, fun hg => by rw [e]; exact h3 hg, hsl⟩
     ·cases h
  ·rw [walkF_end hp] at h
   cases h
   exact ha
theorem bgN_w {k pos : Nat} {x : Int} {o : Ob} {k' : Nat} (hx : 0 ≤ x ∧ x < 18446744073709551616) (hb : bgN k pos x = some (o, k')) : o.pos = pos ∧ (o.g = false → x = packV o.s o.p) ∧ (o.g = true → x = 2 * o.t + 1 ∧ 0 ≤ o.t ∧ o.t < 9223372036854775808) := by
 unfold bgN at hb
 split at hb
 ·rename_i hu
  cases hb
  refine ⟨rfl, fun _ => ?_, fun h => by cases h⟩
  have h2 := hu
  simp only [unOk, Bool.and_eq_true, decide_eq_true_eq] at h2
  show x = packV (unS x) (unP x)
  simp only [unS, unP, hu, if_true]
  unfold packV
  rw [if_pos h2.2]
  omega
 ·cases hb
theorem new_w {zs : List Int} {l : List Ob} {k : Nat} (hz : Small zs) (h : newF zs = .ok l k) : ∀ o ∈ l, WOk zs o :=
 walkF_w hz (fun k pos x o k' hx hb => bgN_w hx hb) (acc := []) (fun o ho => by simp at ho) h
theorem old_w {zs : List Int} {ss : List (Int × Int)} {l : List Ob} {k : Nat} (hz : Small zs) (h : oldF zs ss = .ok l k) : ∀ o ∈ l, WOk zs o := by
 unfold oldF at h
 generalize hw : walkF (bgO ss.length ss) zs zs.length (zs.length + 1) 0 0 [] = r at h
 rcases r with ⟨l', k'⟩ | ⟨c, k'⟩
 ·obtain rfl := oldRes_ok h
  refine walkF_w hz (fun k pos x o k' hx hb => ?_) (acc := []) (fun o ho => by simp at ho) hw
  unfold bgO at hb
  split at hb
  ·rename_i ha
   split at hb
   ·cases hb
    refine ⟨rfl, fun h => (by cases h), fun _ => ?_⟩
    show x = 2 * adV x + 1 ∧ 0 ≤ adV x ∧ adV x < _
    unfold adE at ha
    unfold adV
    split at ha
    ·omega
    ·split at ha
     ·omega
     ·rename_i h1
      rw [if_neg h1]
      omega
   ·cases hb
  ·exact bgN_w hx hb
 ·cases h
theorem adV_inj {x y : Int} (hx : ptrB x = true) (hy : ptrB y = true) (h0 : 0 ≤ x) (h1 : 0 ≤ y) (h : (adV x).toNat = (adV y).toNat) : x = y := by
 unfold ptrB at hx hy
 simp only [decide_eq_true_eq] at hx hy
 unfold adV at h
 rcases hx with rfl | ⟨hx, hx1⟩ <;> rcases hy with rfl | ⟨hy, hy1⟩
 ·rfl
 ·rw [if_pos (by omega), if_neg (by omega)] at h
  omega
 ·rw [if_neg (by omega), if_pos (by omega)] at h
  omega
 ·rw [if_neg (by omega), if_neg (by omega)] at h
  omega
theorem map_inj {xs ys : List Int} (hx : ∀ x ∈ xs, ptrB x = true ∧ 0 ≤ x) (hy : ∀ x ∈ ys, ptrB x = true ∧ 0 ≤ x) (h : xs.map (fun x => (adV x).toNat) = ys.map fun x => (adV x).toNat) : xs = ys := by
 induction xs generalizing ys with
 | nil =>
  cases ys with
  | nil => rfl
  | cons b l => simp at h
 | cons a l ih =>
  cases ys with
  | nil => simp at h
  | cons b m =>
   simp only [List.map_cons, List.cons.injEq] at h
   rw [adV_inj (hx a (by simp)).1 (hy b (by simp)).1 (hx a (by simp)).2 (hy b (by simp)).2 h.1, ih (fun x h => hx x (by simp [h])) (fun x h => hy x (by simp [h])) h.2]
theorem drop_obj {zs : List Int} {pos s p : Nat} (h : pos + 1 + s ≤ zs.length) (hp : p ≤ s) : zs.drop pos = zs.getD pos 0 :: (sub zs (pos + 1) p ++ sub zs (pos + 1 + p) (s - p) ++ zs.drop (pos + 1 + s)) := by
 have h1 : zs.drop pos = zs.getD pos 0 :: zs.drop (pos + 1) := by
  rw [List.drop_eq_getElem_cons (show pos < zs.length by omega), List.getD_eq_getElem?_getD, List.getElem?_eq_getElem (show pos < zs.length by omega)]
  rfl
 have h2 : ∀ a n, zs.drop a = sub zs a n ++ zs.drop (a + n) := fun a n => by
  have e : zs.drop (a + n) = (zs.drop a).drop n := by rw [List.drop_drop]
  unfold sub
  rw [e, List.drop_take, show a + n - a = n by omega, List.take_append_drop]
 rw [h1, h2 (pos + 1) p, h2 (pos + 1 + p) (s - p), show pos + 1 + p + (s - p) = pos + 1 + s by omega, List.append_assoc]
theorem sub_in {zs : List Int} (hz : Small zs) (a n : Nat) : InU (sub zs a n) := fun v hv => small_mem2 (sub_small hz a n) v hv
theorem sub_mem {zs : List Int} {a n : Nat} (h : a + n ≤ zs.length) {x : Int} (hx : x ∈ sub zs a n) : ∃ i, i < n ∧ x = zs.getD (a + i) 0 := by
 obtain ⟨i, hi, rfl⟩ := List.mem_iff_getElem.1 hx
 have hn : (sub zs a n).length = n := sub_len h
 refine ⟨i, by omega, ?_⟩
 rw [← sub_get (zs := zs) (a := a) (n := n) (i := i) (by omega), List.getD_eq_getElem?_getD, List.getElem?_eq_getElem hi]
 rfl
theorem part_inj {L : Int → Option (Int × Int)} {zs zs' : List Int} (hz : Small zs) (hz' : Small zs') : ∀ {os os' : List Ob} {pos : Nat} {x y : List Nat}, ChainO zs.length pos os → ChainO zs'.length pos os' → (∀ o ∈ os, WOk zs o) → (∀ o ∈ os', WOk zs' o) →
  (∀ o ∈ os, o.g = true → L o.t = some (o.s, o.p)) → (∀ o ∈ os', o.g = true → L o.t = some (o.s, o.p)) → os.length = os'.length → os.flatMap (objN zs) ++ x = os'.flatMap (objN zs') ++ y → zs.drop pos = zs'.drop pos ∧ x = y
 | [], [], pos, x, y, h, h', _, _, _, _, _, e => by
  have h1 : pos = zs.length := h
  have h2 : pos = zs'.length := h'
  rw [List.drop_of_length_le (by omega), List.drop_of_length_le (by omega)]
  exact ⟨rfl, e⟩
 | [], _ :: _, _, _, _, _, _, _, _, _, _, hl, _ => by simp at hl
 | _ :: _, [], _, _, _, _, _, _, _, _, _, hl, _ => by simp at hl
 | o :: os, o' :: os', pos, x, y, h, h', hw, hw', hL, hL', hl, e => by
  obtain ⟨a1, a2, a3, a4⟩ := h
  obtain ⟨b1, b2, b3, b4⟩ := h'
  have w1 := hw o (by simp)
  have w2 := hw' o' (by simp)
  have p1 : o.pos.toNat = pos := by omega
  have p2 : o'.pos.toNat = pos := by omega
  rw [List.flatMap_cons, List.flatMap_cons, List.append_assoc, List.append_assoc] at e
  have go : o.s = o'.s → o.p = o'.p → zs.getD pos 0 = zs'.getD pos 0 → sub zs (pos + 1) o.p.toNat = sub zs' (pos + 1) o.p.toNat → sub zs (pos + 1 + o.p.toNat) (o.s.toNat - o.p.toNat) = sub zs' (pos + 1 + o.p.toNat) (o.s.toNat - o.p.toNat) → os.flatMap (objN zs) ++ x = os'.flatMap (objN zs') ++ y → zs.drop pos = zs'.drop pos ∧ x = y := fun e1 e2 e3 e4 e5 e6 => by
   rw [← e1] at b3 b4
   obtain ⟨i1, i2⟩ := part_inj hz hz' a4 b4 (fun o h => hw o (by simp [h])) (fun o h => hw' o (by simp [h])) (fun o h => hL o (by simp [h])) (fun o h => hL' o (by simp [h])) (by simpa using hl) e6
   rw [drop_obj a3 (p := o.p.toNat) (by omega), drop_obj b3 (p := o.p.toNat) (by omega), e3, e4, e5, i1]
   exact ⟨rfl, i2⟩
  have hs1 := w1.slots
  have hs2 := w2.slots
  rw [slotsB_iff] at hs1 hs2
  rw [objN_def zs o, objN_def zs' o'] at e
  cases hg : o.g with
  | true =>
   cases hg' : o'.g with
   | true =>
    rw [hg, hg', if_pos rfl, if_pos rfl] at e
    obtain ⟨g1, g2, g3⟩ := w1.gone hg
    obtain ⟨k1, k2, k3⟩ := w2.gone hg'
    have q : ∀ t : Int, 0 ≤ t → t < 9223372036854775808 → U64s [1, t.toNat] := fun t h1 h2 v hv => by simp at hv; omega
    obtain ⟨e1, e2⟩ := row_pre (by simp) (q _ g2 g3) (q _ k2 k3) e
    have et : o.t = o'.t := by simp at e1; omega
    have l1 := hL o (by simp) hg
    have l2 := hL' o' (by simp) hg'
    rw [et, l2] at l1
    have ls : o.s = o'.s ∧ o.p = o'.p := by simp at l1; exact ⟨l1.1.symm, l1.2.symm⟩
    rw [p1] at g1
    rw [p2] at k1
    have z1 : ∀ a n, pos + 1 ≤ a → a + n ≤ pos + 1 + o.s.toNat → sub zs a n = sub zs' a n := fun a n h1 h2 => by
     have hb3 : pos + 1 + o.s.toNat ≤ zs'.length := by rw [ls.1]; exact b3
     refine List.ext_getElem? fun i => ?_
     have c1 : (sub zs a n).length = n := sub_len (by omega)
     have c2 : (sub zs' a n).length = n := sub_len (by omega)
     rcases Nat.lt_or_ge i n with hi | hi
     ·have d1 := sub_get (zs := zs) (a := a) (n := n) (i := i) (by omega)
      have d2 := sub_get (zs := zs') (a := a) (n := n) (i := i) (by omega)
      have f1 := hs1 (a + i - (pos + 1)) (by omega)
      have f2 := hs2 (a + i - (pos + 1)) (by omega)
      unfold slotOk at f1 f2
      rw [hg, if_pos rfl, p1, show pos + 1 + (a + i - (pos + 1)) = a + i by omega, decide_eq_true_eq] at f1
      rw [hg', if_pos rfl, p2, show pos + 1 + (a + i - (pos + 1)) = a + i by omega, decide_eq_true_eq] at f2
      rw [f1, List.getD_eq_getElem?_getD, List.getElem?_eq_getElem (by omega)] at d1
      rw [f2, List.getD_eq_getElem?_getD, List.getElem?_eq_getElem (by omega)] at d2
      rw [List.getElem?_eq_getElem (by omega), List.getElem?_eq_getElem (by omega)]
      exact congrArg some (d1.trans d2.symm)
     ·rw [List.getElem?_eq_none (by omega), List.getElem?_eq_none (by omega)]
    exact go ls.1 ls.2 (by rw [g1, k1, et]) (z1 _ _ (by omega) (by omega)) (z1 _ _ (by omega) (by omega)) e2
   | false =>
    rw [hg, hg', if_pos rfl, if_neg (by decide)] at e
    unfold rowN at e
    simp only [List.flatMap_cons, List.append_assoc] at e
    have := (put_pre (by omega) (by omega) e).1
    omega
  | false =>
   cases hg' : o'.g with
   | true =>
    rw [hg, hg', if_pos rfl, if_neg (by decide)] at e
    unfold rowN at e
    simp only [List.flatMap_cons, List.append_assoc] at e
    have := (put_pre (by omega) (by omega) e).1
    omega
   | false =>
    rw [hg, hg', if_neg (by decide), if_neg (by decide), p1, p2] at e
    simp only [List.append_assoc] at e
    have q : ∀ s p : Int, 0 ≤ s → s ≤ 255 → 0 ≤ p → p ≤ s → U64s [0, s.toNat, p.toNat] := fun s p h1 h2 h3 h4 v hv => by simp at hv; omega
    obtain ⟨e1, e2⟩ := row_pre (by simp) (q _ _ a2.1 a2.2.1 a2.2.2.1 a2.2.2.2) (q _ _ b2.1 b2.2.1 b2.2.2.1 b2.2.2.2) e
    have es : o.s = o'.s ∧ o.p = o'.p := by simp at e1; omega
    have hb3 : pos + 1 + o.s.toNat ≤ zs'.length := by rw [es.1]; exact b3
    rw [← es.1, ← es.2] at e2
    have c1 : (sub zs (pos + 1) o.p.toNat).length = o.p.toNat := sub_len (by omega)
    have c2 : (sub zs' (pos + 1) o.p.toNat).length = o.p.toNat := sub_len (by omega)
    have c3 : (sub zs (pos + 1 + o.p.toNat) (o.s.toNat - o.p.toNat)).length = o.s.toNat - o.p.toNat := sub_len (by omega)
    have c4 : (sub zs' (pos + 1 + o.p.toNat) (o.s.toNat - o.p.toNat)).length = o.s.toNat - o.p.toNat := sub_len (by omega)
    have qu : ∀ {l : List Int}, InU l → U64s (l.map fun x => (adV x).toNat) := fun {l} h v hv => by
     obtain ⟨x, hx, rfl⟩ := List.mem_map.1 hv
     have := h x hx
     unfold adV
     split <;> omega
    obtain ⟨e3, e4⟩ := row_pre (by rw [List.length_map, List.length_map, c1, c2]) (qu (sub_in hz _ _)) (qu (sub_in hz' _ _)) e2
    obtain ⟨e5, e6⟩ := words_pre (by rw [c3, c4]) (sub_in hz _ _) (sub_in hz' _ _) e4
    have e7 := map_inj (fun x hx => ⟨by
     obtain ⟨i, hi, rfl⟩ := sub_mem (by omega) hx
     have f := hs1 i (by omega)
     unfold slotOk at f
     rw [hg, if_neg (by decide), p1] at f
     rw [decide_eq_true (show (i : Int) < o.p by omega)] at f
     simpa using f, (sub_in hz _ _ x hx).1⟩) (fun x hx => ⟨by
     obtain ⟨i, hi, rfl⟩ := sub_mem (by omega) hx
     have f := hs2 i (by omega)
     unfold slotOk at f
     rw [hg', if_neg (by decide), p2] at f
     rw [decide_eq_true (show (i : Int) < o'.p by omega)] at f
     simpa using f, (sub_in hz' _ _ x hx).1⟩) e3
    have n1 := w1.new hg
    have n2 := w2.new hg'
    rw [p1] at n1
    rw [p2] at n2
    exact go es.1 es.2 (by rw [n1, n2, es.1, es.2]) e7 e5 e6
theorem walkF_all {P : Ob → Prop} {bg : Nat → Nat → Int → Option (Ob × Nat)} {zs : List Int} {len : Nat} (hbg : ∀ k pos x o k', bg k pos x = some (o, k') → P o) :
  ∀ {f k pos : Nat} {acc l : List Ob} {k2 : Nat}, (∀ o ∈ acc, P o) → walkF bg zs len f k pos acc = .ok l k2 → ∀ o ∈ l, P o
 | 0, k, pos, acc, l, k2, ha, h => by cases h
 | f + 1, k, pos, acc, l, k2, ha, h => by
  by_cases hp : pos < len
  ·rw [walkF_step hp] at h
   split at h
   ·cases h
   ·rename_i o k' hb
    split at h
    ·cases h
    ·split at h
     ·refine walkF_all hbg (acc := acc ++ [o]) (fun o' ho' => ?_) h
      rcases List.mem_append.1 ho' with h6 | h6
      ·exact ha _ h6
      ·simp at h6
       subst h6
       exact hbg _ _ _ _ _ hb
     ·cases h
  ·rw [walkF_end hp] at h
   cases h
   exact ha
theorem new_g {zs : List Int} {l : List Ob} {k : Nat} (h : newF zs = .ok l k) : ∀ o ∈ l, o.g = false :=
 walkF_all (fun k pos x o k' hb => by
  unfold bgN at hb
  split at hb
  ·cases hb; rfl
  ·cases hb) (acc := []) (fun o ho => by simp at ho) h
theorem frames_inj {fs gs : List (Int × ByteArray)} (hf : ∀ f ∈ fs, idOk f ∧ f.2.size < 18446744073709551616) (hg : ∀ f ∈ gs, idOk f ∧ f.2.size < 18446744073709551616) (e : (joinR fs).1 = (joinR gs).1) : fs = gs := by
 have key : ∀ {fs : List (Int × ByteArray)}, (∀ f ∈ fs, idOk f ∧ f.2.size < 18446744073709551616) → (∀ f ∈ fs.map ofF, fl.Fr.Ok f) ∧ (fs.map ofF).map fr.toF = fs := fun {fs} h => by
  refine ⟨fun f hf => ?_, ?_⟩
  ·obtain ⟨g, hg, rfl⟩ := List.mem_map.1 hf
   exact ofF_ok (h g hg).1 (h g hg).2
  ·rw [List.map_map]
   conv => rhs; rw [← List.map_id fs]
   refine List.map_congr_left fun f hf => ?_
   exact toF_ofF (h f hf).1
 have hby : ∀ {l : List fl.Fr}, (∀ f ∈ l, fl.Fr.Ok f) → By (joinL l) := fun {l} h b hb => by
  unfold joinL at hb
  obtain ⟨f, hf, hb⟩ := List.mem_flatMap.1 hb
  exact fl.frL_by (h f hf) b hb
 obtain ⟨k1, k2⟩ := key hf
 obtain ⟨k3, k4⟩ := key hg
 rw [joinR_N (fun f h => (hf f h).1), joinR_N (fun f h => (hg f h).1)] at e
 have e2 := congrArg bytesN e
 dsimp only at e2
 rw [bytesN_strB (hby k1), bytesN_strB (hby k3)] at e2
 have e3 := allL_back k1
 rw [e2, allL_back k3] at e3
 injection e3 with e4
 rw [← k2, ← k4, e4]
theorem noteL_same {L L' : Lay} (h : ∀ a, adr L 1 a = adr L' 1 a) : ∀ (l : List Ob) (f : Int → Option (Int × Int)), noteL L l f = noteL L' l f
 | [], f => rfl
 | o :: l, f => by
  show noteL L l (lfS f (adr L 1 o.pos) (o.s, o.p)) = noteL L' l (lfS f (adr L' 1 o.pos) (o.s, o.p))
  rw [h, noteL_same h]
theorem bytes_arr (l : List UInt8) : bytesN ⟨l.toArray⟩ = nU l := by
 unfold bytesN nU
 simp
theorem frames_ok {h : Hp} {s : Fnd} (e : lookF h = some s) (hb : 0 ≤ h.base ∧ h.base < 18446744073709551616) (z1 : Small h.low) (z2 : Small h.high) (z3 : Small h.old) (z4 : Small h.far) (z5 : Small h.roots) : ∀ f ∈ framesOf h s, idOk f ∧ f.2.size < 18446744073709551616 := fun f hf => by
 have hle := frames_le e hb z1 z2 z3 z4 z5 f hf
 refine ⟨?_, by omega⟩
 unfold framesOf at hf
 simp only [List.mem_cons, List.not_mem_nil, or_false] at hf
 rcases hf with rfl | rfl | rfl | rfl | rfl | rfl <;> (unfold idOk; dsimp only; decide)
theorem dump_inj {h h' : Hp} {s s' : Fnd} (e : lookF h = some s) (e' : lookF h' = some s') (hb : 0 ≤ h.base ∧ h.base < 18446744073709551616) (hb' : 0 ≤ h'.base ∧ h'.base < 18446744073709551616)
  (z1 : Small h.low) (z2 : Small h.high) (z3 : Small h.old) (z4 : Small h.far) (z5 : Small h.roots) (y1 : Small h'.low) (y2 : Small h'.high) (y3 : Small h'.old) (y4 : Small h'.far) (y5 : Small h'.roots)
  (eq : (joinR (framesOf h s)).1 = (joinR (framesOf h' s')).1) : h = h' := by
 have ef := frames_inj (frames_ok e hb z1 z2 z3 z4 z5) (frames_ok e' hb' y1 y2 y3 y4 y5) eq
 unfold framesOf at ef
 simp only [List.cons.injEq, Prod.mk.injEq, true_and, and_true] at ef
 obtain ⟨f1, f2, f3, f4, f5, f6⟩ := ef
 obtain ⟨p1, p2, p3, p4, p5, p6, p7, p8, hl⟩ := head_pos e
 obtain ⟨r1, r2, r3, r4, r5, r6, r7, r8, hl'⟩ := head_pos e'
 obtain ⟨a1, a2, hF, a4⟩ := looks_rest e
 obtain ⟨b1, b2, hF', b4⟩ := looks_rest e'
 have hm : ∀ (k : Hp) (s : Fnd), lookF k = some s → 0 ≤ k.base ∧ k.base < 18446744073709551616 → U64s (headN k) := fun k s e hb v hv => by
  obtain ⟨p1, p2, p3, p4, p5, p6, p7, p8, hl⟩ := head_pos e
  have h1 := hl 1 (by omega)
  obtain ⟨a1, a2, hF, a4⟩ := looks_rest e
  unfold boundedB at a1
  rw [Bool.and_eq_true, decide_eq_true_eq] at a1
  unfold headN at hv
  simp only [List.mem_cons, List.not_mem_nil, or_false] at hv
  have : k.part 1 = k.low := rfl
  rw [this] at h1
  rcases hv with rfl | rfl | rfl | rfl | rfl | rfl
  ·omega
  ·omega
  ·omega
  ·omega
  ·split <;> omega
  ·omega
 have g1 := congrArg bytesN f1
 rw [bytesN_strB (by_row _), bytesN_strB (by_row _)] at g1
 have g1 := (row_pre (x := []) (y := []) (by unfold headN; rfl) (hm h s e hb) (hm h' s' e' hb') (by rw [g1])).1
 unfold headN at g1
 simp only [List.cons.injEq, true_and, and_true] at g1
 obtain ⟨h1, h2, h3, h4, h5⟩ := g1
 have c1 : h.base = h'.base := by omega
 have c2 : h.cap = h'.cap := by omega
 have c3 : h.tt = h'.tt := by omega
 have c4 : h.cyc = h'.cyc := by
  cases u : h.cyc <;> cases v : h'.cyc <;> rw [u, v] at h4 <;> first | rfl | (simp at h4)
 have c5 : h.scan = h'.scan := by omega
 have hroot : ∀ k : Hp, bytesN (rootS k) = putN k.roots.length ++ rowN (k.roots.map fun x => (adV x).toNat) := fun k => by
  unfold rootS
  rw [fr.bytesN_app, bytesN_strB (By.putN _), bytes_arr, nU_refs]
 have g2 := congrArg bytesN f2
 rw [hroot, hroot] at g2
 obtain ⟨d1, d2⟩ := put_pre (by omega) (by omega) g2
 have hru : ∀ {l : List Int}, Small l → U64s (l.map fun x => (adV x).toNat) := fun {l} h v hv => by
  obtain ⟨x, hx, rfl⟩ := List.mem_map.1 hv
  have := small_mem2 h x hx
  unfold adV
  split <;> omega
 have d3 := (row_pre (x := []) (y := []) (by rw [List.length_map, List.length_map, d1]) (hru z5) (hru y5) (by rw [List.append_nil, List.append_nil]; exact d2)).1
 have hpt : ∀ {l : List Int}, Small l → l.all refOkB = true → ∀ x ∈ l, ptrB x = true ∧ 0 ≤ x := fun {l} h k x hx => by
  rw [List.all_eq_true] at k
  refine ⟨?_, (small_mem2 h x hx).1⟩
  rw [ptrB_eq]
  exact k x hx
 have c6 : h.roots = h'.roots := map_inj (hpt z5 p5) (hpt y5 r5) d3
 have hpart : ∀ (k : Hp) (t : Fnd) (q : Nat), bytesN (partU k t q) = putN (t.obs q).length ++ (t.obs q).flatMap (objN (k.part q)) := fun k t q => by
  unfold partU
  rw [bytes_arr, nU_app, nU_uP, nU_flat]
  congr 2
  funext o
  exact nU_obj _ _
 have key : ∀ (q : Nat) (L : Int → Option (Int × Int)), 1 ≤ q ∧ q ≤ 4 → Small (h.part q) → Small (h'.part q) → (∀ o ∈ s.obs q, WOk (h.part q) o) → (∀ o ∈ s'.obs q, WOk (h'.part q) o) → (∀ o ∈ s.obs q, o.g = true → L o.t = some (o.s, o.p)) → (∀ o ∈ s'.obs q, o.g = true → L o.t = some (o.s, o.p)) → partU h s q = partU h' s' q → h.part q = h'.part q := fun q L hq k1 k2 k3 k4 k5 k6 k7 => by
  have g := congrArg bytesN k7
  rw [hpart, hpart] at g
  have l1 := chain_len (hF.chain q hq)
  have l2 := chain_len (hF'.chain q hq)
  have l3 := hl q hq
  have l4 := hl' q hq
  obtain ⟨m1, m2⟩ := put_pre (by omega) (by omega) g
  have := (part_inj (L := L) (x := []) (y := []) k1 k2 (hF.chain q hq) (hF'.chain q hq) k3 k4 k5 k6 m1 (by rw [List.append_nil, List.append_nil]; exact m2)).1
  rwa [List.drop_zero, List.drop_zero] at this
 obtain ⟨⟨q1, o1⟩, ⟨q2, o2⟩, ⟨q3, o3⟩, ⟨q4, o4⟩, olf, opf⟩ := hF
 obtain ⟨⟨q1', o1'⟩, ⟨q2', o2'⟩, ⟨q3', o3'⟩, ⟨q4', o4'⟩, olf', opf'⟩ := hF'
 have e1 : h.low = h'.low := key 1 (fun _ => none) (by omega) z1 y1 (new_w z1 o1) (new_w y1 o1') (fun o ho hg => by rw [new_g o1 o ho] at hg; cases hg) (fun o ho hg => by rw [new_g o1' o ho] at hg; cases hg) f3
 have e2 : h.high = h'.high := key 2 (fun _ => none) (by omega) z2 y2 (new_w z2 o2) (new_w y2 o2') (fun o ho hg => by rw [new_g o2 o ho] at hg; cases hg) (fun o ho hg => by rw [new_g o2' o ho] at hg; cases hg) f4
 have elf : s'.lf = s.lf := by
  rw [olf, olf']
  have : s'.o1 = s.o1 := by
   rw [e1, o1'] at o1
   injection o1
  rw [this]
  refine noteL_same (fun a => ?_) _ _
  unfold adr firstI lenI Hp.lay
  simp only [c1, c2, c3, e1, if_true]
 rw [elf] at o3' o4'
 have e3 : h.old = h'.old := key 3 s.lf (by omega) z3 y3 (old_w z3 o3) (old_w y3 o3') (old_lf o3) (old_lf o3') f5
 have e4 : h.far = h'.far := key 4 s.lf (by omega) z4 y4 (old_w z4 o4) (old_w y4 o4') (old_lf o4) (old_lf o4') f6
 cases h
 cases h'
 simp only at c1 c2 c3 c4 c5 c6 e1 e2 e3 e4
 subst c1 c2 c3 c4 c5 c6 e1 e2 e3 e4
 rfl
end Go.Proofs.YtpgjploaliefdaaGreat.im
