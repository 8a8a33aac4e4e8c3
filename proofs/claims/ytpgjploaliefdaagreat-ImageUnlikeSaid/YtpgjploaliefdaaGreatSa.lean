/- Slices of numbers and of objects that are read; they are compared. No conditions. -/
import Derived.Test.YtpgjploaliefdaaGreatG05
import Derived.RegionTactic
namespace Go.Proofs.YtpgjploaliefdaaGreat.ob
open Go.RowKit hd
set_option linter.unusedVariables false
set_option linter.unusedSimpArgs false
def IntsAt (W : World) (b off len : Nat) (zs : List Int) : Prop := ∀ i, i < len → W.cell? ⟨b, off + i, none⟩ = some (.int .i64 (zs.getD i 0))
theorem IntsAt.block {A B : World} {b off len : Nat} {zs : List Int} (h : IntsAt A b off len zs) (hb : B.heap[b]? = A.heap[b]?) : IntsAt B b off len zs := fun i hi => by
 rw [← h i hi]; simp [World.cell?, hb]
theorem IntsAt.at {A : World} {b off len : Nat} {zs : List Int} (h : IntsAt A b off len zs) (i : Nat) (hi : i < len) : A.cell? ⟨b, off + i, none⟩ = some (.int .i64 (zs.getD i 0)) := h i hi
theorem IntsAt.lt {A : World} {b off len : Nat} {zs : List Int} (h : IntsAt A b off len zs) (h0 : 0 < len) : b < A.heap.size := World.block_lt_of_cell? _ _ (h 0 h0)
theorem IntsAt.none (W : World) (b off : Nat) (zs : List Int) : IntsAt W b off 0 zs := fun i hi => absurd hi (Nat.not_lt_zero _)
theorem words_of {A : World} {b off len : Nat} {zs : List Int} (h : ∀ i, i < len → A.cell? ⟨b, off + i, Option.none⟩ = some (.int .u64 (zs.getD i 0))) : WordsAt A b off len zs := by unfold WordsAt; exact h
theorem ints_of {A : World} {b off len : Nat} {zs : List Int} (h : ∀ i, i < len → A.cell? ⟨b, off + i, Option.none⟩ = some (.int .i64 (zs.getD i 0))) : IntsAt A b off len zs := h
attribute [irreducible] IntsAt
def obD (l : List Ob) (i : Nat) : Ob := l.getD i ⟨0, 0, 0, false, 0⟩
def ObjsAt (W : World) (b off len : Nat) (l : List Ob) : Prop := ∀ i, i < len → W.cell? ⟨b, off + i * 5, none⟩ = some (.int .i64 (obD l i).pos) ∧ W.cell? ⟨b, off + i * 5 + 1, none⟩ = some (.int .i64 (obD l i).s) ∧ W.cell? ⟨b, off + i * 5 + 2, none⟩ = some (.int .i64 (obD l i).p) ∧ W.cell? ⟨b, off + i * 5 + 3, none⟩ = some (.bool (obD l i).g) ∧ W.cell? ⟨b, off + i * 5 + 4, none⟩ = some (.int .u64 (obD l i).t)
theorem ObjsAt.block {A B : World} {b off len : Nat} {zs : List Ob} (h : ObjsAt A b off len zs) (hb : B.heap[b]? = A.heap[b]?) : ObjsAt B b off len zs := fun i hi => by
 obtain ⟨h0, h1, h2, h3, h4⟩ := h i hi
 refine ⟨?_, ?_, ?_, ?_, ?_⟩
 ·rw [← h0]; simp [World.cell?, hb]
 ·rw [← h1]; simp [World.cell?, hb]
 ·rw [← h2]; simp [World.cell?, hb]
 ·rw [← h3]; simp [World.cell?, hb]
 ·rw [← h4]; simp [World.cell?, hb]
theorem ObjsAt.at {A : World} {b off len : Nat} {l : List Ob} (h : ObjsAt A b off len l) (i : Nat) (hi : i < len) : A.cell? ⟨b, off + i * 5, none⟩ = some (.int .i64 (obD l i).pos) ∧ A.cell? ⟨b, off + i * 5 + 1, none⟩ = some (.int .i64 (obD l i).s) ∧ A.cell? ⟨b, off + i * 5 + 2, none⟩ = some (.int .i64 (obD l i).p) ∧ A.cell? ⟨b, off + i * 5 + 3, none⟩ = some (.bool (obD l i).g) ∧ A.cell? ⟨b, off + i * 5 + 4, none⟩ = some (.int .u64 (obD l i).t) := h i hi
theorem ObjsAt.lt {A : World} {b off len : Nat} {l : List Ob} (h : ObjsAt A b off len l) (h0 : 0 < len) : b < A.heap.size := World.block_lt_of_cell? _ _ (h 0 h0).1
theorem ObjsAt.of {W : World} {b off len : Nat} {l : List Ob} (h : ∀ i, i < len → W.cell? ⟨b, off + i * 5, none⟩ = some (.int .i64 (obD l i).pos) ∧ W.cell? ⟨b, off + i * 5 + 1, none⟩ = some (.int .i64 (obD l i).s) ∧ W.cell? ⟨b, off + i * 5 + 2, none⟩ = some (.int .i64 (obD l i).p) ∧ W.cell? ⟨b, off + i * 5 + 3, none⟩ = some (.bool (obD l i).g) ∧ W.cell? ⟨b, off + i * 5 + 4, none⟩ = some (.int .u64 (obD l i).t)) : ObjsAt W b off len l := h
theorem ObjsAt.none (W : World) (b off : Nat) (l : List Ob) : ObjsAt W b off 0 l := fun i hi => absurd hi (Nat.not_lt_zero _)
attribute [irreducible] ObjsAt
def NumsIn (W : World) (v : Value) (zs : List Int) : Prop := ∃ (ad : Option Addr) (b off cap : Nat), v = .slice ad zs.length cap ∧ ((0 < zs.length → ad = some ⟨b, off, none⟩) ∧ (ad = none → cap = 0)) ∧ zs.length ≤ cap ∧ (cap < 9223372036854775808 ∧ zs.length < 1000000000000) ∧ b < W.heap.size ∧ WordsAt W b off zs.length zs
theorem NumsIn.tr {W w : World} {v : Value} {zs : List Int} (h : NumsIn W v zs) (hb : Below W.heap.size W w) : NumsIn w v zs := by
 obtain ⟨ad, b, off, cap, e, h1, h2, h3, h4, h5⟩ := h
 exact ⟨ad, b, off, cap, e, h1, h2, h3, Nat.lt_of_lt_of_le h4 hb.size, h5.block (hb.block b h4)⟩
theorem NumsIn.nil {W : World} (h : 0 < W.heap.size) : NumsIn W (.slice none 0 0) [] := ⟨none, 0, 0, 0, rfl, ⟨fun h => by simp at h, fun _ => rfl⟩, Nat.le_refl _, by simp, h, WordsAt.none _ _ _ _⟩
theorem NumsIn.alloc {W : World} {v : Value} {zs : List Int} (h : NumsIn W v zs) (o : Obj) : NumsIn (W.alloc o) v zs := h.tr ((Below.refl _ _).alloc (Nat.le_refl _) _)
theorem NumsIn.drew {W : World} {v : Value} {zs : List Int} (h : NumsIn W v zs) : NumsIn W.drew v zs := h.tr (Below.refl _ _).drew
def IntsIn (W : World) (v : Value) (zs : List Int) : Prop := ∃ (ad : Option Addr) (b off cap : Nat), v = .slice ad zs.length cap ∧ ((0 < zs.length → ad = some ⟨b, off, none⟩) ∧ (ad = none → cap = 0)) ∧ zs.length ≤ cap ∧ (cap < 9223372036854775808 ∧ zs.length < 1000000000000) ∧ b < W.heap.size ∧ IntsAt W b off zs.length zs
theorem IntsIn.tr {W w : World} {v : Value} {zs : List Int} (h : IntsIn W v zs) (hb : Below W.heap.size W w) : IntsIn w v zs := by
 obtain ⟨ad, b, off, cap, e, h1, h2, h3, h4, h5⟩ := h
 exact ⟨ad, b, off, cap, e, h1, h2, h3, Nat.lt_of_lt_of_le h4 hb.size, h5.block (hb.block b h4)⟩
theorem IntsIn.nil {W : World} (h : 0 < W.heap.size) : IntsIn W (.slice none 0 0) [] := ⟨none, 0, 0, 0, rfl, ⟨fun h => by simp at h, fun _ => rfl⟩, Nat.le_refl _, by simp, h, IntsAt.none _ _ _ _⟩
theorem IntsIn.alloc {W : World} {v : Value} {zs : List Int} (h : IntsIn W v zs) (o : Obj) : IntsIn (W.alloc o) v zs := h.tr ((Below.refl _ _).alloc (Nat.le_refl _) _)
theorem IntsIn.drew {W : World} {v : Value} {zs : List Int} (h : IntsIn W v zs) : IntsIn W.drew v zs := h.tr (Below.refl _ _).drew
def ObjsIn (W : World) (v : Value) (zs : List Ob) : Prop := ∃ (ad : Option Addr) (b off cap : Nat), v = .slice ad zs.length cap ∧ ((0 < zs.length → ad = some ⟨b, off, none⟩) ∧ (ad = none → cap = 0)) ∧ zs.length ≤ cap ∧ (cap < 9223372036854775808 ∧ zs.length < 1000000000000) ∧ b < W.heap.size ∧ ObjsAt W b off zs.length zs
theorem ObjsIn.tr {W w : World} {v : Value} {zs : List Ob} (h : ObjsIn W v zs) (hb : Below W.heap.size W w) : ObjsIn w v zs := by
 obtain ⟨ad, b, off, cap, e, h1, h2, h3, h4, h5⟩ := h
 exact ⟨ad, b, off, cap, e, h1, h2, h3, Nat.lt_of_lt_of_le h4 hb.size, h5.block (hb.block b h4)⟩
theorem ObjsIn.nil {W : World} (h : 0 < W.heap.size) : ObjsIn W (.slice none 0 0) [] := ⟨none, 0, 0, 0, rfl, ⟨fun h => by simp at h, fun _ => rfl⟩, Nat.le_refl _, by simp, h, ObjsAt.none _ _ _ _⟩
theorem ObjsIn.alloc {W : World} {v : Value} {zs : List Ob} (h : ObjsIn W v zs) (o : Obj) : ObjsIn (W.alloc o) v zs := h.tr ((Below.refl _ _).alloc (Nat.le_refl _) _)
theorem ObjsIn.drew {W : World} {v : Value} {zs : List Ob} (h : ObjsIn W v zs) : ObjsIn W.drew v zs := h.tr (Below.refl _ _).drew
def Small (zs : List Int) : Prop := ∀ i, 0 ≤ zs.getD i 0 ∧ zs.getD i 0 < 18446744073709551616
theorem take_eq {α : Type} {xs ys : List α} (hl : xs.length = ys.length) {k : Nat} (d : α) (h : xs.take k = ys.take k) (e : xs.getD k d = ys.getD k d) : xs.take (k + 1) = ys.take (k + 1) := by
 by_cases hk : k < xs.length
 ·rw [List.take_add_one, List.take_add_one, h]
  congr 1
  simp only [List.getD, List.getElem?_eq_getElem hk, List.getElem?_eq_getElem (hl ▸ hk)] at e ⊢
  simpa using e
 ·rw [List.take_of_length_le (by omega), List.take_of_length_le (by omega)]
  rw [List.take_of_length_le (by omega), List.take_of_length_le (by omega)] at h
  exact h
theorem take_all {α : Type} {xs ys : List α} (hl : xs.length = ys.length) {k : Nat} (hk : xs.length ≤ k) (h : xs.take k = ys.take k) : xs = ys := by
 rw [List.take_of_length_le hk, List.take_of_length_le (by omega)] at h
 exact h
set_option maxHeartbeats 1000000 in
theorem nums_any (v u : Value) (xs ys : List Int) (w : World) (hx : NumsIn w v xs) (hy : NumsIn w u ys) :
  Calls Tryz.prog 55 #[v, u] w fun e w' => e = .returned (.bool (decide (xs = ys))) ∧ Below w.heap.size w w' := by
 obtain ⟨ad, b, off, cap, rfl, h1, h2, h3, h4, h5⟩ := hx
 obtain ⟨ad', b', off', cap', rfl, h1', h2', h3', h4', h5'⟩ := hy
 by_cases hl : xs.length = ys.length
 ·generalize hm : ys.length = m at *
  generalize hn : xs.length = n at *
  subst hl
  have HL : Hid (xs.length = n ∧ ys.length = n) := ⟨hn, hm⟩
  clear hn hm
  go_enter Tryz.func55, Tryz.ntmps55
  go_wp2_with fail
  go_loopw [5] (fun i wr => ∃ k : Nat, k ≤ n ∧ i = .int .i64 k ∧ Hid (xs.take k = ys.take k) ∧ Below w.heap.size w wr) (fun i _ => n - (intOf i).toNat)
  case atStart => exact ⟨0, Nat.zero_le _, rfl, by simp [Hid], Below.refl _ _⟩
  case round =>
   obtain ⟨k, hk, rfl, ht, hb⟩ := hrel
   by_cases hlk : k < n
   ·obtain rfl := h1.1 (by omega)
    obtain rfl := h1'.1 (by omega)
    have hxk := (h5.block (hb.block b h4)).at k (by omega)
    have hyk := (h5'.block (hb.block b' h4')).at k (by omega)
    have HT := Lib.hid (take_eq (xs := xs) (ys := ys) (k := k) (by have := HL.out; omega) 0 ht.out)
    have HE : Hid (xs = ys → xs.getD k 0 = ys.getD k 0) := fun e => by rw [e]
    have HB := Lib.hid hb
    clear h1 h1' hb
    generalize xs.getD k 0 = x at *
    generalize ys.getD k 0 = y at *
    by_cases hxy : x = y
    ·have hbq : (x == y) = true := by simp [hxy]
     subst hxy
     go_wp2_with fail
     go_region
     go_wp2_with fail
     refine ⟨⟨k + 1, by omega, by go_num, HT.out (by trivial), ?_⟩, by simp [intOf]; omega⟩
     have := HB.out
     exact bm
    ·have hbq : (x == y) = false := by simp [hxy]
     go_wp2_with fail
     go_region
     go_wp2_with fail
     go_ret
     refine retB (by symm; exact decide_eq_false fun e => hxy (HE.out e)) ?_
     have := HB.out
     exact bm
   ·have HE : Hid (xs = ys) := take_all (by have := HL.out; omega) (by have := HL.out; omega) ht.out
    have HB := Lib.hid hb
    clear h1 h1' hb
    go_wp2_with fail
    go_ret
    refine retB (by symm; exact decide_eq_true HE.out) ?_
    have := HB.out
    exact bm
 ·have hne : Hid (¬ xs = ys) := fun e => hl (by rw [e])
  have hbq : ((xs.length : Int) == (ys.length : Int)) = false := beq_eq_false_iff_ne.mpr (by omega)
  generalize ys.length = m at *
  generalize xs.length = n at *
  clear h1 h1' hl
  go_enter Tryz.func55, Tryz.ntmps55
  go_wp2_with fail
  go_ret
  refine retB (by symm; exact decide_eq_false hne.out) ?_
  exact bm
theorem ob_ext {a b : Ob} (h : oV a = oV b) : a = b := by
 obtain ⟨a0, a1, a2, a3, a4⟩ := a
 obtain ⟨b0, b1, b2, b3, b4⟩ := b
 simp [oV] at h
 obtain ⟨rfl, rfl, rfl, rfl, rfl⟩ := h
 rfl
instance : DecidableEq Ob := fun a b => if h : a.pos = b.pos ∧ a.s = b.s ∧ a.p = b.p ∧ a.g = b.g ∧ a.t = b.t then .isTrue (by cases a; cases b; simp at h; simp [h]) else .isFalse (fun e => h (by rw [e]; simp))
def obB (a b : Ob) : Bool := a.pos == b.pos && (a.s == b.s && a.p == b.p) && a.g == b.g && a.t == b.t
theorem obB_iff (a b : Ob) : obB a b = true ↔ a = b := by
 cases a; cases b; simp [obB, and_assoc]
end Go.Proofs.YtpgjploaliefdaaGreat.ob
