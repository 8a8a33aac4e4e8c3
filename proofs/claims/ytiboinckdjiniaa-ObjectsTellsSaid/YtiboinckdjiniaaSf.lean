/- The laws' awake. No conditions. -/
import Derived.Test.YtiboinckdjiniaaSe
namespace Go.Proofs.Ytiboinckdjiniaa.ob
open Go.RowKit Go.Proofs.Ytiboinckdjiniaa.hd
set_option linter.unusedVariables false
set_option linter.unusedSimpArgs false
theorem ints_lit (w : World) (xs : List Int) (b : Nat) (h : Blk w b (xs.map (fun n : Int => Value.int .i64 n)).toArray 3) (hl : xs.length < 1000000) : IntsIn w (.slice (some ⟨b, 0, none⟩) xs.length xs.length) xs := by
  obtain ⟨lb, cb, fb⟩ := h.get
  refine ⟨some ⟨b, 0, none⟩, b, 0, xs.length, rfl, ⟨fun _ => rfl, fun e => by cases e⟩, Nat.le_refl _, by omega, lb, ints_of fun i hi => ?_⟩
  rw [cb (0 + i)]
  simp [List.getD, hi]
theorem objs_lit (w : World) (l : List Ob) (b : Nat) (h : Blk w b (flatO l).toArray 53) (hl : l.length < 1000000) : ObjsIn w (.slice (some ⟨b, 0, none⟩) l.length l.length) l := by
  obtain ⟨lb, cb, fb⟩ := h.get
  refine ⟨some ⟨b, 0, none⟩, b, 0, l.length, rfl, ⟨fun _ => rfl, fun e => by cases e⟩, Nat.le_refl _, by omega, lb, ObjsAt.of fun i hi => ?_⟩
  have key : ∀ j u, j < 5 → (obCells (obD l i))[j]? = some u → w.cell? ⟨b, 0 + i * 5 + j, none⟩ = some u := by
    intro j u hj hu
    rw [cb]
    simp only [Nat.zero_add, List.getElem?_toArray]
    rw [flatO_get l i j hi hj]; exact hu
  exact ⟨key 0 _ (by omega) rfl, key 1 _ (by omega) rfl, key 2 _ (by omega) rfl, key 3 _ (by omega) rfl, key 4 _ (by omega) rfl⟩
theorem shapes_lit (w : World) (s p : Int) (b : Nat) (h : Blk w b #[.int .i64 s, .int .i64 p] 28) : ShapesIn w (.slice (some ⟨b, 0, none⟩) 1 1) [(s, p)] := by
  obtain ⟨lb, cb, fb⟩ := h.get
  refine ⟨some ⟨b, 0, none⟩, b, 0, 1, rfl, ⟨fun _ => rfl, fun e => by cases e⟩, Nat.le_refl _, by simp, lb, ?_⟩
  unfold ShapesAt
  intro i hi
  have : i = 0 := by simp at hi; exact hi
  subst this
  exact ⟨by rw [cb]; rfl, by rw [cb]; rfl⟩
theorem aw1 : walkF bgN [131078, 11, 5, 6] 4 5 0 0 [] = .ok [⟨0, 3, 1, false, 0⟩] 0 := by kernel_rfl
theorem aw2 : kindsF 4 [⟨0, 3, 1, false, 0⟩] [] = some [1, 2, 3, 3] := by kernel_rfl
theorem aw3 : walkF bgN [131078, 11, 5] 3 4 0 0 [] = .err 2 0 := by kernel_rfl
theorem aw4 : walkF bgN [131078, 10, 5, 6] 4 5 0 0 [] = .err 3 0 := by kernel_rfl
theorem aw5 : ∃ k, oldF [9, 0, 2, 8] [(1, 0)] = .ok [⟨0, 1, 0, true, 4⟩, ⟨2, 1, 0, false, 0⟩] k := ⟨1, by kernel_rfl⟩
theorem aw6 : oldF [9] [] = .err 3 0 := by kernel_rfl
theorem aw7 : layOk 3 1 [11, 5, 6] ∧ ptrsOk [11, 5, 6] 1 ∧ packV 3 1 = 131078 := by
  refine ⟨⟨by decide, rfl⟩, fun i hi => ?_, by decide⟩
  have : i = 0 := by omega
  subst this
  decide
theorem aw8 : ¬ layOk 3 1 [] := fun h => by have := h.2; simp at this
set_option maxRecDepth 100000 in
set_option maxHeartbeats 4000000 in
theorem awake_any2 (w : World) :
    Calls Try.prog 9 #[] w fun e w' => e = .returned (.bool true) ∧ Below w.heap.size w w' ∧ 0 < w'.heap.size := by
  go_enter Try.func9, Try.ntmps9
  go_wp2_with fail
  have b1 : Blk (w.alloc (.cells #[.int .u64 131078, .int .u64 11, .int .u64 5, .int .u64 6] 24)) w.heap.size #[.int .u64 131078, .int .u64 11, .int .u64 5, .int .u64 6] 24 := Blk.new _ _ _
  refine (walk_in _ [131078, 11, 5, 6] _ (words_lit _ [131078, 11, 5, 6] w.heap.size b1 4 (by decide) (by decide) (by decide)) (small_of (by decide))).mono ?_
  rintro e w1 ⟨h1, k1⟩
  replace h1 : WalkedAs _ (walkF bgN [131078, 11, 5, 6] 4 5 0 0 []) e w1 := h1
  rw [aw1] at h1
  obtain ⟨v1, rfl, o1⟩ := h1
  replace b1 := b1.tr k1
  have B1 : Below w.heap.size w w1 := by (repeat (first | with_reducible exact Below.refl _ _ | with_reducible refine kp_alloc ?_ _ | with_reducible refine kp_drew ?_ | with_reducible refine kp_set ?_ (by first | omega | (simp; done) | (simp; omega)) _ | with_reducible refine kp_tr ?_ (by with_reducible assumption)))
  clear k1
  have z1 : 0 < w1.heap.size := by have := b1.lt; omega
  have O1 := Lib.hid o1
  clear o1
  have BB1 := Lib.hid b1
  have BL1 := Lib.hid B1
  clear b1 B1
  go_wp2_with fail
  refine (kinds_any _ _ _ _ _ _ (by decide) (obs_sees O1.out z1 (by decide))).mono ?_
  rintro e w2 ⟨h2, k2⟩
  rw [aw2] at h2
  obtain ⟨v2, rfl, o2⟩ := h2
  have K2 : Hid (Below w1.heap.size w1 w2) := by
    show Below _ _ _
    (repeat (first | with_reducible exact Below.refl _ _ | with_reducible refine kp_alloc ?_ _ | with_reducible refine kp_drew ?_ | with_reducible refine kp_set ?_ (by first | omega | (simp; done) | (simp; omega)) _ | with_reducible refine kp_tr ?_ (by with_reducible assumption)))
  clear k2
  have O2 := Lib.hid o2
  clear o2
  go_wp2_with fail
  refine (walk_in _ [131078, 11, 5] _ (words_lit _ [131078, 11, 5, 6] w.heap.size (BB1.out.tr K2.out) 3 (by decide) (by decide) (by decide)) (small_of (by decide))).mono ?_
  rintro e w3 ⟨h3, k3⟩
  replace h3 : WalkedAs _ (walkF bgN [131078, 11, 5] 3 4 0 0 []) e w3 := h3
  rw [aw3] at h3
  obtain rfl := h3
  have K3 : Hid (Below w2.heap.size w2 w3) := by
    show Below _ _ _
    (repeat (first | with_reducible exact Below.refl _ _ | with_reducible refine kp_alloc ?_ _ | with_reducible refine kp_drew ?_ | with_reducible refine kp_set ?_ (by first | omega | (simp; done) | (simp; omega)) _ | with_reducible refine kp_tr ?_ (by with_reducible assumption)))
  clear k3
  go_wp2_with fail
  have b4 : Blk (w3.alloc (.cells #[.int .u64 131078, .int .u64 10, .int .u64 5, .int .u64 6] 24)) w3.heap.size #[.int .u64 131078, .int .u64 10, .int .u64 5, .int .u64 6] 24 := Blk.new _ _ _
  refine (walk_in _ [131078, 10, 5, 6] _ (words_lit _ [131078, 10, 5, 6] w3.heap.size b4 4 (by decide) (by decide) (by decide)) (small_of (by decide))).mono ?_
  rintro e w4 ⟨h4, k4⟩
  replace h4 : WalkedAs _ (walkF bgN [131078, 10, 5, 6] 4 5 0 0 []) e w4 := h4
  rw [aw4] at h4
  obtain rfl := h4
  clear b4
  have K4 : Hid (Below w3.heap.size w3 w4) := by
    show Below _ _ _
    (repeat (first | with_reducible exact Below.refl _ _ | with_reducible refine kp_alloc ?_ _ | with_reducible refine kp_drew ?_ | with_reducible refine kp_set ?_ (by first | omega | (simp; done) | (simp; omega)) _ | with_reducible refine kp_tr ?_ (by with_reducible assumption)))
  clear k4
  go_wp2_with fail
  have b5 : Blk ((w4.alloc (.cells #[.int .u64 9, .int .u64 0, .int .u64 2, .int .u64 8] 24)).alloc (.cells #[.int .i64 1, .int .i64 0] 28)) w4.heap.size #[.int .u64 9, .int .u64 0, .int .u64 2, .int .u64 8] 24 := (Blk.new _ _ _).alloc _
  have c5 : Blk ((w4.alloc (.cells #[.int .u64 9, .int .u64 0, .int .u64 2, .int .u64 8] 24)).alloc (.cells #[.int .i64 1, .int .i64 0] 28)) (w4.heap.size + 1) #[.int .i64 1, .int .i64 0] 28 := Blk.mk (by simp)
  refine (walkold_in _ _ [9, 0, 2, 8] [(1, 0)] _ (words_lit _ [9, 0, 2, 8] w4.heap.size b5 4 (by decide) (by decide) (by decide)) (small_of (by decide)) (shapes_lit _ 1 0 _ c5)).mono ?_
  rintro e w5 ⟨⟨B5, _, h5⟩, k5⟩
  obtain ⟨t5, e5⟩ := aw5
  rw [e5] at h5
  obtain ⟨v5, rfl, o5⟩ := h5
  clear b5 c5 e5
  have K5 : Hid (Below w4.heap.size w4 w5) := by
    show Below _ _ _
    (repeat (first | with_reducible exact Below.refl _ _ | with_reducible refine kp_alloc ?_ _ | with_reducible refine kp_drew ?_ | with_reducible refine kp_set ?_ (by first | omega | (simp; done) | (simp; omega)) _ | with_reducible refine kp_tr ?_ (by with_reducible assumption)))
  clear k5
  have O5 := Lib.hid o5
  clear o5
  go_wp2_with fail
  have b6 : Blk (w5.alloc (.cells #[.int .u64 9] 24)) w5.heap.size #[.int .u64 9] 24 := Blk.new _ _ _
  refine (walkold_in _ _ [9] [] _ (words_lit _ [9] w5.heap.size b6 1 (by decide) (by decide) (by decide)) (small_of (by decide)) (ShapesIn.nil (by simp))).mono ?_
  rintro e w6 ⟨⟨B6, _, h6⟩, k6⟩
  rw [aw6] at h6
  obtain rfl := h6
  clear b6
  have K6 : Hid (Below w5.heap.size w5 w6) := by
    show Below _ _ _
    (repeat (first | with_reducible exact Below.refl _ _ | with_reducible refine kp_alloc ?_ _ | with_reducible refine kp_drew ?_ | with_reducible refine kp_set ?_ (by first | omega | (simp; done) | (simp; omega)) _ | with_reducible refine kp_tr ?_ (by with_reducible assumption)))
  clear k6
  go_wp2_with fail
  have b7 : Blk (w6.alloc (.cells #[.int .u64 11, .int .u64 5, .int .u64 6] 24)) w6.heap.size #[.int .u64 11, .int .u64 5, .int .u64 6] 24 := Blk.new _ _ _
  refine (lay_any 3 1 _ [11, 5, 6] _ (words_lit _ [11, 5, 6] w6.heap.size b7 3 (by decide) (by decide) (by decide)) (small_of (by decide)) (by decide) (by decide)).mono ?_
  rintro e w7 ⟨h7, k7⟩
  obtain ⟨v7, rfl, o7⟩ : ∃ v, e = .returned (.tuple #[v, .int .i64 0]) ∧ OwnNums w7 (w6.alloc (.cells #[.int .u64 11, .int .u64 5, .int .u64 6] 24)).heap.size v [131078, 11, 5, 6] := by
    obtain ⟨a1, a2, a3⟩ := aw7
    rcases h7 with ⟨h, _⟩ | ⟨_, h, _⟩ | ⟨_, _, h⟩
    · exact absurd a1 h
    · exact absurd a2 h
    · rw [a3] at h; exact h
  clear b7 h7
  have K7 : Hid (Below w6.heap.size w6 w7) := by
    show Below _ _ _
    (repeat (first | with_reducible exact Below.refl _ _ | with_reducible refine kp_alloc ?_ _ | with_reducible refine kp_drew ?_ | with_reducible refine kp_set ?_ (by first | omega | (simp; done) | (simp; omega)) _ | with_reducible refine kp_tr ?_ (by with_reducible assumption)))
  clear k7
  have O7 := Lib.hid o7
  clear o7
  go_wp2_with fail
  have z7 : 0 < w7.heap.size := by have := K2.out.size; have := K3.out.size; have := K4.out.size; have := K5.out.size; have := K6.out.size; have := K7.out.size; omega
  refine (lay_any 3 1 _ [] _ (NumsIn.nil z7) small_nil (by decide) (by decide)).mono ?_
  rintro e w8 ⟨h8, k8⟩
  obtain rfl : e = .returned (.tuple #[.slice none 0 0, .int .i64 1]) := by
    rcases h8 with ⟨_, h⟩ | ⟨h, _⟩ | ⟨h, _⟩
    · exact h
    · exact absurd h aw8
    · exact absurd h aw8
  clear h8
  have K8 : Hid (Below w7.heap.size w7 w8) := by
    show Below _ _ _
    (repeat (first | with_reducible exact Below.refl _ _ | with_reducible refine kp_alloc ?_ _ | with_reducible refine kp_drew ?_ | with_reducible refine kp_set ?_ (by first | omega | (simp; done) | (simp; omega)) _ | with_reducible refine kp_tr ?_ (by with_reducible assumption)))
  clear k8
  have K18 : Hid (Below w1.heap.size w1 w8) := by
    have := K2.out; have := K3.out; have := K4.out; have := K5.out; have := K6.out; have := K7.out; have := K8.out
    show Below _ _ _
    (repeat (first | with_reducible exact Below.refl _ _ | with_reducible refine kp_alloc ?_ _ | with_reducible refine kp_drew ?_ | with_reducible refine kp_set ?_ (by first | omega | (simp; done) | (simp; omega)) _ | with_reducible refine kp_tr ?_ (by with_reducible assumption)))
  have K28 : Hid (Below w2.heap.size w2 w8) := by
    have := K3.out; have := K4.out; have := K5.out; have := K6.out; have := K7.out; have := K8.out
    show Below _ _ _
    (repeat (first | with_reducible exact Below.refl _ _ | with_reducible refine kp_alloc ?_ _ | with_reducible refine kp_drew ?_ | with_reducible refine kp_set ?_ (by first | omega | (simp; done) | (simp; omega)) _ | with_reducible refine kp_tr ?_ (by with_reducible assumption)))
  have K58 : Hid (Below w5.heap.size w5 w8) := by
    have := K6.out; have := K7.out; have := K8.out
    show Below _ _ _
    (repeat (first | with_reducible exact Below.refl _ _ | with_reducible refine kp_alloc ?_ _ | with_reducible refine kp_drew ?_ | with_reducible refine kp_set ?_ (by first | omega | (simp; done) | (simp; omega)) _ | with_reducible refine kp_tr ?_ (by with_reducible assumption)))
  have z8 : Hid (0 < w8.heap.size) := by have := K8.out.size; show 0 < _; omega
  clear K2 K3 K4 K5 K6 z1 z7
  go_wp2_with fail
  refine (same_any _ _ [⟨0, 3, 1, false, 0⟩] [⟨0, 3, 1, false, 0⟩] _ ((obs_sees (obs_tr O1.out K18.out) z8.out (by decide)).alloc _) (objs_lit _ [⟨0, 3, 1, false, 0⟩] _ (Blk.new _ _ _) (by decide))).mono ?_
  rintro e w9 ⟨rfl, k9⟩
  rw [show decide (([⟨0, 3, 1, false, 0⟩] : List Ob) = [⟨0, 3, 1, false, 0⟩]) = true from by decide]
  have K9 : Hid (Below w8.heap.size w8 w9) := by
    show Below _ _ _
    (repeat (first | with_reducible exact Below.refl _ _ | with_reducible refine kp_alloc ?_ _ | with_reducible refine kp_drew ?_ | with_reducible refine kp_set ?_ (by first | omega | (simp; done) | (simp; omega)) _ | with_reducible refine kp_tr ?_ (by with_reducible assumption)))
  clear k9
  have z9 : Hid (0 < w9.heap.size) := by have := K9.out.size; have := z8.out; show 0 < _; omega
  go_wp2_with fail
  refine (ints_any _ _ [1, 2, 3, 3] [1, 2, 3, 3] _ ((((O2.out.tr K28.out).tr K9.out).sees z9.out (by decide)).alloc _) (ints_lit _ [1, 2, 3, 3] _ (Blk.new _ _ _) (by decide))).mono ?_
  rintro e w10 ⟨rfl, k10⟩
  rw [show decide (([1, 2, 3, 3] : List Int) = [1, 2, 3, 3]) = true from by decide]
  have K10 : Hid (Below w9.heap.size w9 w10) := by
    show Below _ _ _
    (repeat (first | with_reducible exact Below.refl _ _ | with_reducible refine kp_alloc ?_ _ | with_reducible refine kp_drew ?_ | with_reducible refine kp_set ?_ (by first | omega | (simp; done) | (simp; omega)) _ | with_reducible refine kp_tr ?_ (by with_reducible assumption)))
  clear k10
  have z10 : Hid (0 < w10.heap.size) := by have := K10.out.size; have := z9.out; show 0 < _; omega
  go_wp2_with fail
  refine (same_any _ _ [⟨0, 1, 0, true, 4⟩, ⟨2, 1, 0, false, 0⟩] [⟨0, 1, 0, true, 4⟩, ⟨2, 1, 0, false, 0⟩] _ ((obs_sees (obs_tr (obs_tr (obs_tr O5.out K58.out) K9.out) K10.out) z10.out (by decide)).alloc _) (objs_lit _ [⟨0, 1, 0, true, 4⟩, ⟨2, 1, 0, false, 0⟩] _ (Blk.new _ _ _) (by decide))).mono ?_
  rintro e w11 ⟨rfl, k11⟩
  rw [show decide (([⟨0, 1, 0, true, 4⟩, ⟨2, 1, 0, false, 0⟩] : List Ob) = [⟨0, 1, 0, true, 4⟩, ⟨2, 1, 0, false, 0⟩]) = true from by decide]
  have K11 : Hid (Below w10.heap.size w10 w11) := by
    show Below _ _ _
    (repeat (first | with_reducible exact Below.refl _ _ | with_reducible refine kp_alloc ?_ _ | with_reducible refine kp_drew ?_ | with_reducible refine kp_set ?_ (by first | omega | (simp; done) | (simp; omega)) _ | with_reducible refine kp_tr ?_ (by with_reducible assumption)))
  clear k11
  have z11 : Hid (0 < w11.heap.size) := by have := K11.out.size; have := z10.out; show 0 < _; omega
  go_wp2_with fail
  refine (nums_any _ _ [131078, 11, 5, 6] [131078, 11, 5, 6] _ (((((O7.out.tr K8.out).tr K9.out).tr K10.out).tr K11.out).sees z11.out (by decide)) (words_lit _ [131078, 11, 5, 6] w.heap.size (((((BB1.out.tr K18.out).tr K9.out).tr K10.out).tr K11.out)) 4 (by decide) (by decide) (by decide))).mono ?_
  rintro e w12 ⟨rfl, k12⟩
  rw [show decide (([131078, 11, 5, 6] : List Int) = [131078, 11, 5, 6]) = true from by decide]
  have K12 : Hid (Below w11.heap.size w11 w12) := by
    show Below _ _ _
    (repeat (first | with_reducible exact Below.refl _ _ | with_reducible refine kp_alloc ?_ _ | with_reducible refine kp_drew ?_ | with_reducible refine kp_set ?_ (by first | omega | (simp; done) | (simp; omega)) _ | with_reducible refine kp_tr ?_ (by with_reducible assumption)))
  clear k12
  go_wp2_with fail
  go_ret
  refine ⟨rfl, ?_, ?_⟩
  · have h1 := BL1.out; have := K18.out; have := K9.out; have := K10.out; have := K11.out; have := K12.out
    (repeat (first | with_reducible exact Below.refl _ _ | with_reducible refine kp_alloc ?_ _ | with_reducible refine kp_drew ?_ | with_reducible refine kp_set ?_ (by first | omega | (simp; done) | (simp; omega)) _ | with_reducible refine kp_tr ?_ (by with_reducible assumption)))
  · have := K12.out.size; have := z11.out; simp; omega
theorem awake_any (w : World) :
    Calls Try.prog 9 #[] w fun e w' => e = .returned (.bool true) ∧ Below w.heap.size w w' :=
  (awake_any2 w).mono fun _ _ h => ⟨h.1, h.2.1⟩
end Go.Proofs.Ytiboinckdjiniaa.ob
