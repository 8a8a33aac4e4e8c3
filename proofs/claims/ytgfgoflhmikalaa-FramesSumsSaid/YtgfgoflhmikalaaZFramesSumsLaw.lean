/- The statement Rows.FramesSumsSaid (cromlech/cromlechlaw04.FramesSums), out of its walk. Conditions: none but the statement's own. -/
import Derived.Test.YtgfgoflhmikalaaM35
import Derived.Deep.RegionWith
import Derived.Test.YtgfgoflhmikalaaRows
import Derived.WalkKit
import Derived.ProofKit
import Derived.OpenShut
import Derived.ShutString
import Derived.ChangeOld
import Derived.Below
import Derived.Lib.SmallJoins
import Derived.Conc.HoldsTime
namespace Go.Proofs.Ytgfgoflhmikalaa.fr
open Go Go.RowKit Go.Proofs.Ytgfgoflhmikalaa.cm Go.Proofs.Ytgfgoflhmikalaa.cw Go.Proofs.Ytgfgoflhmikalaa.ga Go.Proofs.Ytgfgoflhmikalaa.gr Go.Proofs.Ytgfgoflhmikalaa.lw Go.Proofs.Ytgfgoflhmikalaa.fl
set_option linter.unusedVariables false
set_option linter.unusedSimpArgs false
variable {HC : Code}
attribute [local irreducible] Go.Proofs.Ytgfgoflhmikalaa.par.loneP
/-- A row of bytes, of one's own, from a block's head. -/
def RowI (w : World) (n : Nat) (xs : List Int) : Prop := ∀ i, i < xs.length → w.cell? ⟨n, i, none⟩ = some (.int .u8 (xs.getD i 0)) ∧ w.frozen? ⟨n, i, none⟩ = false
theorem RowI.at {w : World} {n : Nat} {xs : List Int} (h : RowI w n xs) {i : Nat} (hi : i < xs.length) : w.cell? ⟨n, i, none⟩ = some (.int .u8 (xs.getD i 0)) ∧ w.frozen? ⟨n, i, none⟩ = false := h i hi
theorem RowI.tr {W w : World} {n : Nat} {xs : List Int} (h : RowI W n xs) (hb : Below W.heap.size W w) : RowI w n xs := fun i hi => by
  obtain ⟨h1, h2⟩ := h i hi
  exact ⟨cell_tr hb h1, (hb.frozen (p := ⟨n, i, none⟩) (World.block_lt_of_cell? _ _ h1)).trans h2⟩
theorem RowI.drew {w : World} {n : Nat} {xs : List Int} (h : RowI w n xs) : RowI w.drew n xs := h
theorem RowI.set {w : World} {n k : Nat} {xs : List Int} (h : RowI w n xs) (hk : k < xs.length) (v : Int) : RowI (w.setCell ⟨n, k, none⟩ (.int .u8 v)) n (xs.set k v) := fun i hi => by
  rw [List.length_set] at hi
  obtain ⟨h1, h2⟩ := h i hi
  by_cases e : i = k
  · subst e
    exact ⟨by rw [World.cell?_setCell_same _ _ _ h1]; simp [List.getD, hi], by simpa using h2⟩
  · refine ⟨?_, by simpa using h2⟩
    rw [World.cell?_setCell_other _ _ _ _ (fun q => e (by have q2 := congrArg Addr.off q; first | exact q2 | exact q2.symm)), h1]
    simp [List.getD, Ne.symm e]
theorem RowI.str (w : World) (s : ByteArray) (c : Nat) : RowI (w.alloc (.cells (bytesRow s c) 5 ((bytesRow s c).size, (bytesRow s c).size + 1))) w.heap.size ((bytesN s).map fun b : Nat => (b : Int)) := fun i hi => by
  rw [List.length_map, bytesN_len] at hi
  have hsz : i < (bytesRow s c).size := by
    have := bytesRow_at s c i hi
    rcases Nat.lt_or_ge i (bytesRow s c).size with h | h
    · exact h
    · rw [Array.getElem?_eq_none h] at this; cases this
  rw [World.cell?_alloc_mark, bytesRow_at s c i hi, World.frozen?_alloc_mark]
  refine ⟨by simp [bytesN, List.getD, hi], ?_⟩
  rw [decide_eq_false (by omega)]
  rfl
theorem RowI.conv {w : World} {n : Nat} {xs : List Int} (h : RowI w n xs) (m c : Nat) (hm : xs.length = m) :
    (convert 45 9 (.slice (some ⟨n, 0, none⟩) m c)).run (Go.Proofs.Ytgfgoflhmikalaa.par.loneP HC) w = .ok (.string (strOfNums xs)) w := by
  refine run_convert_bytes_arg (P := (Go.Proofs.Ytgfgoflhmikalaa.par.loneP HC)) w 45 5 ((Go.Proofs.Ytgfgoflhmikalaa.par.lon_underlying HC 45).trans Try.underlying45) ((Go.Proofs.Ytgfgoflhmikalaa.par.lon_underlying HC 5).trans Try.underlying5) n 0 m c xs hm (fun i hi => ?_) 9 ((Go.Proofs.Ytgfgoflhmikalaa.par.lon_underlying HC 9).trans Try.underlying9)
  rw [Nat.zero_add, (h.at (by omega)).1]
attribute [irreducible] RowI
theorem wrap_in (n : Int) : -9223372036854775808 ≤ IntKind.i64.wrap n ∧ IntKind.i64.wrap n < 9223372036854775808 := by
  simp only [IntKind.wrap, IntKind.signed, IntKind.bits]; simp; omega
theorem pick_ex (c n : Int) (w : World) (hn : 1 ≤ n) (hn2 : n < 1000000000000) (h1 : -9223372036854775808 ≤ c) (h2 : c < 9223372036854775808) :
    Calls (Go.Proofs.Ytgfgoflhmikalaa.par.loneP HC) 19 #[.int .i64 c, .int .i64 n] w fun e w' => (∃ r : Nat, (r : Int) < n ∧ e = .returned (.int .i64 (r : Int))) ∧ w = w' := by
  refine (pick_any c n w hn hn2 h1 h2).mono ?_
  rintro e w' ⟨rfl, rfl⟩
  obtain ⟨h3, h4⟩ := pickI_in c (n := n) (by omega)
  obtain ⟨r, hr⟩ := Int.eq_ofNat_of_zero_le h3
  rw [hr] at h4 ⊢
  exact ⟨⟨r, h4, rfl⟩, rfl⟩
set_option maxRecDepth 100000 in
set_option maxHeartbeats 8000000 in
theorem turned_any (s : ByteArray) (which x : Int) (w : World) (hs : s.size < 1000000) (hw : -9223372036854775808 ≤ which ∧ which < 9223372036854775808) (hx : -9223372036854775808 ≤ x ∧ x < 9223372036854775808) :
    Calls (Go.Proofs.Ytgfgoflhmikalaa.par.loneP HC) 15 #[.string s, .int .i64 which, .int .i64 x] w fun e w' => (∃ r : ByteArray, r.size ≤ s.size + 1 ∧ e = .returned (.string r)) ∧ Below w.heap.size w w' := by
  by_cases h0 : s.size = 0
  · have hs0 : s = ⟨#[]⟩ := by
      apply ByteArray.ext
      exact Array.eq_empty_of_size_eq_zero h0
    subst hs0
    go_enter (Go.Proofs.Ytgfgoflhmikalaa.par.lfun15 (H := HC)), Try.ntmps15
    go_wp2_with fail
    go_ret
    exact ⟨⟨⟨#[]⟩, by simp, rfl⟩, Below.refl _ _⟩
  · have hne : s.toList.isEmpty = false := by
      rw [ByteArray.toList_eq, List.isEmpty_eq_false_iff]
      intro e
      apply h0
      rw [← bytesN_len, bytesN, e]
      rfl
    obtain ⟨w1, w2⟩ := hw
    obtain ⟨x1, x2⟩ := hx
    have hcv := fun w => run_bytes_of_string (P := (Go.Proofs.Ytgfgoflhmikalaa.par.loneP HC)) w 9 45 5 s ((Go.Proofs.Ytgfgoflhmikalaa.par.lon_underlying HC 9).trans Try.underlying9) ((Go.Proofs.Ytgfgoflhmikalaa.par.lon_underlying HC 45).trans Try.underlying45) ((Go.Proofs.Ytgfgoflhmikalaa.par.lon_underlying HC 5).trans Try.underlying5)
    have hcw : ∀ (n m c : Nat) (xs : List Int) (W' : World), RowI W' n xs → xs.length = m → (convert 45 9 (.slice (some ⟨n, 0, none⟩) m c)).run (Go.Proofs.Ytgfgoflhmikalaa.par.loneP HC) W' = .ok (.string (strOfNums xs)) W' := fun n m c xs W' h hm => h.conv m c hm
    go_enter (Go.Proofs.Ytgfgoflhmikalaa.par.lfun15 (H := HC)), Try.ntmps15
    go_wp2_with fail
    refine (pick_ex x s.size _ (by omega) (by omega) x1 x2).mono ?_; rintro e ww ⟨⟨k, hk, rfl⟩, rfl⟩
    go_wp2_with fail
    refine (pick_ex which 4 _ (by omega) (by omega) w1 w2).mono ?_; rintro e ww ⟨⟨q, hq, rfl⟩, rfl⟩
    have hq4 : q = 0 ∨ q = 1 ∨ q = 2 ∨ q = 3 := by omega
    have hk2 : (k : Int) ≤ (s.size : Int) := by omega
    have hk3 : (k : Int) + 1 ≤ (s.size : Int) := by omega
    rcases hq4 with rfl | rfl | rfl | rfl
    · go_wp2_with fail
      go_ret
      exact ⟨⟨_, by simp; omega, rfl⟩, Below.refl _ _⟩
    · have ad1 := add_run (HC := HC) (s.extract 0 k) (s.extract ((k : Int) + 1).toNat s.size) (by simp; omega)
      go_wp2_with fail
      go_region
      go_wp2_with fail
      go_ret
      exact ⟨⟨_, by simp; omega, rfl⟩, by (repeat (first | with_reducible exact Below.refl _ _ | with_reducible refine kp_alloc ?_ _ | with_reducible refine kp_drew ?_ | with_reducible refine kp_set ?_ (by first | omega | (simp; done) | (simp; omega)) _ | with_reducible refine kp_tr ?_ (by with_reducible assumption)))⟩
    · have ad1 : ∀ l : List Nat, l.length = 1 → ∀ w : World, (Op.stringOp .add (s.extract 0 k) (strB l)).run (Go.Proofs.Ytgfgoflhmikalaa.par.loneP HC) w = .ok (.string (s.extract 0 k ++ strB l)) w := fun l hl => add_run (HC := HC) _ _ (by rw [strB_size]; simp; omega)
      have ad2 : ∀ l : List Nat, l.length = 1 → ∀ w : World, (Op.stringOp .add (s.extract 0 k ++ strB l) (s.extract k s.size)).run (Go.Proofs.Ytgfgoflhmikalaa.par.loneP HC) w = .ok (.string (s.extract 0 k ++ strB l ++ s.extract k s.size)) w := fun l hl => add_run (HC := HC) _ _ (by rw [ByteArray.size_append, strB_size]; simp; omega)
      have hcv1 : ∀ (y : Nat) (n : Nat) (W' : World), W'.cell? ⟨n, 0, none⟩ = some (.int .u8 (y : Int)) → (convert 45 9 (.slice (some ⟨n, 0, none⟩) 1 1)).run (Go.Proofs.Ytgfgoflhmikalaa.par.loneP HC) W' = .ok (.string (strB [y])) W' := fun y n W' h => conv1 _ y _ h
      clear hcv hcw
      go_wp2_with fail
      have HAD := Lib.hid (And.intro ad1 ad2)
      have HCV := Lib.hid hcv1
      clear ad1 ad2 hcv1
      go_region_with
        (first
          | (go_at_call 19; refine (pick_ex _ _ _ (by omega) (by omega) (wrap_in _).1 (wrap_in _).2).mono ?_; rintro e ww ⟨⟨r, hr, rfl⟩, rfl⟩; have hwr : IntKind.u8.wrap (r : Int) = (r : Int) := wr_u8 _ (by omega); have hcv2 := HCV.out r; have a1 := HAD.out.1 [r] rfl; have a2 := HAD.out.2 [r] rfl))
      all_goals
        go_wp2_with fail
        go_ret
        exact ⟨⟨_, by rw [ByteArray.size_append, ByteArray.size_append, strB_size]; simp; omega, rfl⟩, by (repeat (first | with_reducible exact Below.refl _ _ | with_reducible refine kp_alloc ?_ _ | with_reducible refine kp_drew ?_ | with_reducible refine kp_set ?_ (by first | omega | (simp; done) | (simp; omega)) _ | with_reducible refine kp_tr ?_ (by with_reducible assumption)))⟩
    · clear hcw
      go_wp2_with fail
      have hR : RowI (w.alloc (.cells (bytesRow s (grownCap w s.size 0 5)) 5 ((bytesRow s (grownCap w s.size 0 5)).size, (bytesRow s (grownCap w s.size 0 5)).size + 1))).drew w.heap.size ((bytesN s).map fun b : Nat => (b : Int)) := (RowI.str w s _).drew
      have hb1 : Below w.heap.size w (w.alloc (.cells (bytesRow s (grownCap w s.size 0 5)) 5 ((bytesRow s (grownCap w s.size 0 5)).size, (bytesRow s (grownCap w s.size 0 5)).size + 1))).drew := by (repeat (first | with_reducible exact Below.refl _ _ | with_reducible refine kp_alloc ?_ _ | with_reducible refine kp_drew ?_ | with_reducible refine kp_set ?_ (by first | omega | (simp; done) | (simp; omega)) _ | with_reducible refine kp_tr ?_ (by with_reducible assumption)))
      generalize (w.alloc (.cells (bytesRow s (grownCap w s.size 0 5)) 5 ((bytesRow s (grownCap w s.size 0 5)).size, (bytesRow s (grownCap w s.size 0 5)).size + 1))).drew = W at *
      generalize grownCap w s.size 0 5 = c at *
      have hl : ((bytesN s).map fun b : Nat => (b : Int)).length = s.size := by rw [List.length_map, bytesN_len]
      generalize ((bytesN s).map fun b : Nat => (b : Int)) = xs at *
      have hcell := hR.at (i := k) (by omega)
      obtain ⟨hc1, hf1⟩ := hcell
      generalize xs.getD k 0 = y at *
      have HR := Lib.hid hR
      have HB := Lib.hid hb1
      clear hR hb1 hcv
      go_region_with
        (first
          | (go_at_call 19; refine (pick_ex _ _ _ (by omega) (by omega) (wrap_in _).1 (wrap_in _).2).mono ?_; rintro e ww ⟨⟨r, hr, rfl⟩, rfl⟩))
      all_goals
        have hR2 := (HR.out.set (k := k) (by omega) (bits .xor .u8 y (IntKind.u8.wrap (2 ^ r)))).drew
        have hc2 := hR2.conv (HC := HC) s.size c (by rw [List.length_set]; exact hl)
        have hsz : (strOfNums (xs.set k (bits .xor .u8 y (IntKind.u8.wrap (2 ^ r))))).size = s.size := by rw [strOfNums_size, List.length_set, hl]
        have hb1 := HB.out
        generalize strOfNums (xs.set k (bits .xor .u8 y (IntKind.u8.wrap (2 ^ r)))) = z at *
        clear hR2
        go_wp2_with fail
        go_ret
        exact ⟨⟨z, by omega, rfl⟩, by (repeat (first | with_reducible exact Below.refl _ _ | with_reducible refine kp_alloc ?_ _ | with_reducible refine kp_drew ?_ | with_reducible refine kp_set ?_ (by first | omega | (simp; done) | (simp; omega)) _ | with_reducible refine kp_tr ?_ (by with_reducible assumption)))⟩
end Go.Proofs.Ytgfgoflhmikalaa.fr

namespace Go.Proofs.Ytgfgoflhmikalaa.fr
open Go Go.RowKit Go.Proofs.Ytgfgoflhmikalaa.cm Go.Proofs.Ytgfgoflhmikalaa.cw Go.Proofs.Ytgfgoflhmikalaa.ga Go.Proofs.Ytgfgoflhmikalaa.gr Go.Proofs.Ytgfgoflhmikalaa.lw Go.Proofs.Ytgfgoflhmikalaa.fl
set_option linter.unusedVariables false
set_option linter.unusedSimpArgs false
variable {HC : Code}
attribute [local irreducible] Go.Proofs.Ytgfgoflhmikalaa.par.loneP
/-- The first things of a slice. -/
theorem rin_head {α : Type} {k : Nat} {en : α → List Value} {W : World} {ad : Option Addr} {n cap : Nat} {zs : List α} (h : RIn k en W (.slice ad n cap) zs) (i : Nat) (hi : i ≤ zs.length) : RIn k en W (.slice ad i cap) (zs.take i) := by
  obtain ⟨ad', b, off, cap', e, h1, h2, h3, h4, h5, h6⟩ := h.form
  cases e
  refine RIn.mk (ad := ad) (b := b) (off := off) (cap := cap) (by rw [List.length_take]; congr 1; omega) (fun h0 => h1 (by rw [List.length_take] at h0; omega)) h2 (by rw [List.length_take]; omega) h4 (fun h0 => h5 (by rw [List.length_take] at h0; omega)) fun i2 j x y hx hy => ?_
  have hl : i2 < (zs.take i).length := by
    rcases Nat.lt_or_ge i2 (zs.take i).length with h | h
    · exact h
    · rw [List.getElem?_eq_none h] at hx; cases hx
  rw [List.length_take] at hl
  have := h1 (by omega)
  subst this
  rw [List.getElem?_take, if_pos (by omega)] at hx
  exact h6.at hx j y hy
set_option maxRecDepth 100000 in
set_option maxHeartbeats 8000000 in
theorem cuts_walk (hEq : HC = par.Hm) (v0 : Value) (is : List Int) (v1 : Value) (bs : List ByteArray) (at_ : Int) (w : World) (h0 : RIn 1 enI w v0 is) (hi : ∀ x ∈ is, -9223372036854775808 ≤ x ∧ x < 9223372036854775808) (h1 : RIn 1 enS w v1 bs) (hb : ∀ s ∈ bs, s.size ≤ maxLen)
    (hat : -9223372036854775808 ≤ at_ ∧ at_ < 9223372036854775808) :
    Calls (Go.Proofs.Ytgfgoflhmikalaa.par.loneP HC) 7 #[v0, v1, .int .i64 at_] w fun e w' => e = .returned (.bool true) ∧ Below w.heap.size w w' := by
  have HAW := Lib.hid (fun W => awake_any hEq W)
  have HL := Lib.hid (fun W h0 h1 => list_any (HC := HC) v0 v1 is bs W h0 h1 hi hb)
  have hF := listR_fine is bs
  have hlen : (listR is bs).length ≤ 8 := by rw [listR_len]; omega
  have hsz : ∀ f ∈ listR is bs, f.2.size ≤ 40 := fun f hf => (listR_ok f hf).2
  have H0 := Lib.hid h0
  have H1 := Lib.hid h1
  clear hi hb h0 h1
  generalize listR is bs = fs at *
  have hJs : (jB fs).size < 1000 := by have := jB_size_le hsz (by omega); have := Nat.mul_le_mul hlen (Nat.le_refl 55); omega
  have HJ := Lib.hid (fun v W h => join_any (HC := HC) v fs W h (by omega) hF.sz hF.i64)
  rw [jB_R hF] at HJ
  obtain ⟨P, hP⟩ : ∃ P : Nat → Nat, ∀ i, P i = (jB (fs.take i)).size := ⟨_, fun _ => rfl⟩
  obtain ⟨k, hk⟩ : ∃ k : Nat, pickI at_ ((jB fs).size + 1) = (k : Int) := Int.eq_ofNat_of_zero_le (pickI_in at_ (by omega)).1
  have hkl : k ≤ (jB fs).size := by have := (pickI_in at_ (n := (jB fs).size + 1) (by omega)).2; omega
  have HPK := Lib.hid (fun W => pick_any (HC := HC) at_ ((jB fs).size + 1) W (by omega) (by omega) hat.1 hat.2)
  rw [hk] at HPK
  have HJI := Lib.hid (fun v (i : Nat) W (h : RIn 2 encF W v (fs.take i)) => (by
    have h := join_any (HC := HC) v (fs.take i) W h (by rw [List.length_take]; omega) (hF.take i).sz (hF.take i).i64
    rw [jB_R (hF.take i)] at h
    exact h : Calls (Go.Proofs.Ytgfgoflhmikalaa.par.loneP HC) 11 #[v] W fun e w' => e = .returned (.tuple #[.string (jB (fs.take i)), .int .i64 0]) ∧ Below W.heap.size W w'))
  have HA := Lib.hid (fun W => all_any hEq ((jB fs).extract 0 k) W (by simp; omega))
  have HZ := Lib.hid (fun W => all_any hEq (jB fs ++ ⟨#[0]⟩) W (by rw [ByteArray.size_append]; show _ + 1 < _; omega))
  rw [cut_zero hF] at HZ
  have HB1 := Lib.hid (fun i => cut_between hF i)
  have HB2 := Lib.hid (fun hn => cut_within hF hkl hn)
  clear hEq hsz hat hF hk
  have hkl2 : (k : Int) ≤ ((jB fs).size : Int) := by omega
  have hz1 : (⟨#[0]⟩ : ByteArray).size = 1 := rfl
  have ad1 := add_run (HC := HC) (jB fs) ⟨#[0]⟩ (by rw [hz1]; omega)
  clear hz1
  go_enter (Go.Proofs.Ytgfgoflhmikalaa.par.lfun7 (H := HC)), Try.ntmps7
  go_wp2_with fail
  refine (HAW.out _).mono ?_; rintro e w1 ⟨rfl, k1⟩
  go_wp2_with fail
  refine (HL.out _ (H0.out.tr k1) (H1.out.tr k1)).mono ?_; rintro e w2 ⟨v2, rfl, ho2, k2⟩
  have hb2 : Below w.heap.size w w2 := kp_tr k1 k2
  have hv2 := ho2.sees (fun _ => rfl)
  clear k1 k2 ho2 H0 H1 HL HAW
  go_wp2_with fail
  refine (HJ.out _ _ hv2).mono ?_; rintro e w3 ⟨rfl, k3⟩
  replace hb2 := kp_tr hb2 k3
  replace hv2 := hv2.tr k3
  clear k3 HJ
  go_wp2_with fail
  refine (HPK.out _).mono ?_; rintro e w4 ⟨rfl, rfl⟩
  obtain ⟨ad, b, off, cap, rfl, q1, q2, q3, q4, q5, hX⟩ := hv2.form
  have HX := Lib.hid hX
  have HB3 := Lib.hid hb2
  clear hX hv2 hb2 q2 HPK
  go_wp2_with fail
  go_loopw [12, 13, 14] (fun bw n i wr => ∃ j : Nat, j ≤ fs.length + 1 ∧ i = .int .i64 j ∧ ((bw = .bool false ∧ n = .int .i64 0 ∧ Hid (∀ j', j' < j → ¬ (jB (fs.take j')).size = k)) ∨ ∃ n' : Nat, n' ≤ fs.length ∧ bw = .bool true ∧ n = .int .i64 n' ∧ Hid ((jB (fs.take n')).size = k)) ∧ Hid (Below w3.heap.size w3 wr)) (fun _ _ i _ => fs.length + 1 - (intOf i).toNat)
  case atStart => exact ⟨0, by omega, rfl, .inl ⟨rfl, rfl, Lib.hid (fun j' h => absurd h (by omega))⟩, Lib.hid (Below.refl _ _)⟩
  case round =>
    obtain ⟨j, hj, rfl, hrel, hb⟩ := hrel
    by_cases hlj : j ≤ fs.length
    · have hj2 : (j : Int) ≤ (fs.length : Int) := by omega
      have hj3 : (j : Int) ≤ (cap : Int) := by omega
      have hXj := (rin_head HX.out j hlj).tr hb.out
      by_cases hjk : (jB (fs.take j)).size = k
      · have hjk2 : ((jB (fs.take j)).size : Int) = (k : Int) := by omega
        clear hrel
        go_wp2_with fail
        refine (HJI.out _ j _ hXj).mono ?_; rintro e w5 ⟨rfl, k5⟩
        have hb5 : Hid (Below w3.heap.size w3 w5) := Lib.hid (kp_tr hb.out k5)
        clear k5 hb hXj
        go_wp2_with fail
        exact ⟨⟨j + 1, by omega, by go_num, .inr ⟨j, hlj, rfl, rfl, Lib.hid hjk⟩, hb5⟩, by simp [intOf]; omega⟩
      · have hjk2 : ¬ ((jB (fs.take j)).size : Int) = (k : Int) := by omega
        rcases hrel with ⟨rfl, rfl, hno⟩ | ⟨n', hn', rfl, rfl, hyes⟩
        · have hno2 : Hid (∀ j', j' < j + 1 → ¬ (jB (fs.take j')).size = k) := Lib.hid (fun j' h => by
            by_cases e : j' = j
            · rw [e]; exact hjk
            · exact hno.out j' (by omega))
          clear hno
          go_wp2_with fail
          refine (HJI.out _ j _ hXj).mono ?_; rintro e w5 ⟨rfl, k5⟩
          have hb5 : Hid (Below w3.heap.size w3 w5) := Lib.hid (kp_tr hb.out k5)
          clear k5 hb hXj
          go_wp2_with fail
          exact ⟨⟨j + 1, by omega, by go_num, .inl ⟨rfl, rfl, hno2⟩, hb5⟩, by simp [intOf]; omega⟩
        · go_wp2_with fail
          refine (HJI.out _ j _ hXj).mono ?_; rintro e w5 ⟨rfl, k5⟩
          have hb5 : Hid (Below w3.heap.size w3 w5) := Lib.hid (kp_tr hb.out k5)
          clear k5 hb hXj
          go_wp2_with fail
          exact ⟨⟨j + 1, by omega, by go_num, .inr ⟨n', hn', rfl, rfl, hyes⟩, hb5⟩, by simp [intOf]; omega⟩
    · obtain rfl : j = fs.length + 1 := by omega
      have hnl : ¬ ((fs.length : Int) + 1 ≤ (fs.length : Int)) := by omega
      rcases hrel with ⟨rfl, rfl, hno⟩ | ⟨n', hn', rfl, rfl, hyes⟩
      · have hA := HB2.out (fun i hi => hno.out i (by omega))
        rw [hA] at HA
        clear hA hno HB1 HB2
        go_wp2_with fail
        refine (HA.out _).mono ?_; rintro e w5 ⟨v5, rfl, hv5, k5⟩
        obtain ⟨ad5, b5, off5, cap5, rfl, -, -, -, -, -, -⟩ := hv5.form
        have hb5 : Hid (Below w3.heap.size w3 w5) := Lib.hid (kp_tr hb.out k5)
        clear hv5 k5 hb HA
        go_wp2_with fail
        refine (HZ.out _).mono ?_; rintro e w6 ⟨v6, rfl, hv6, k6⟩
        have hb6 : Hid (Below w3.heap.size w3 w6) := Lib.hid (kp_tr hb5.out k6)
        clear hv6 k6 hb5 HZ
        go_wp2_with fail
        go_ret
        exact ⟨rfl, kp_tr HB3.out hb6.out⟩
      · have hA := HB1.out n'
        rw [hyes.out] at hA
        rw [hA] at HA
        clear hA hyes HB1 HB2
        have hn2 : (n' : Int) ≤ (fs.length : Int) := by omega
        have hn3 : (n' : Int) ≤ (cap : Int) := by omega
        have HXn := Lib.hid (rin_head HX.out n' hn')
        go_wp2_with fail
        refine (HA.out _).mono ?_; rintro e w5 ⟨v5, rfl, hv5, k5⟩
        have hb5 : Hid (Below w3.heap.size w3 w5) := Lib.hid (kp_tr hb.out k5)
        have HV5 := Lib.hid hv5
        clear hv5 hb HA
        go_wp2_with fail
        refine (HZ.out _).mono ?_; rintro e w6 ⟨v6, rfl, hv6, k6⟩
        have hb6 : Hid (Below w3.heap.size w3 w6) := Lib.hid (kp_tr hb5.out k6)
        have HV6 := Lib.hid (HV5.out.tr k6)
        clear hv6 k6 k5 hb5 HZ HV5
        go_wp2_with fail
        refine (same_any _ _ (fs.take n') (fs.take n') _ HV6.out (HXn.out.tr hb6.out)).mono ?_; rintro e w7 ⟨rfl, k7⟩
        rw [decide_eq_true rfl]
        have hb7 : Hid (Below w3.heap.size w3 w7) := Lib.hid (kp_tr hb6.out k7)
        clear k7 HV6 hb6
        go_wp2_with fail
        go_ret
        exact ⟨rfl, kp_tr HB3.out hb7.out⟩
end Go.Proofs.Ytgfgoflhmikalaa.fr

namespace Go.Proofs.Ytgfgoflhmikalaa.fr
open Go Go.RowKit Go.Proofs.Ytgfgoflhmikalaa.cm Go.Proofs.Ytgfgoflhmikalaa.cw Go.Proofs.Ytgfgoflhmikalaa.ga Go.Proofs.Ytgfgoflhmikalaa.gr Go.Proofs.Ytgfgoflhmikalaa.lw Go.Proofs.Ytgfgoflhmikalaa.fl
set_option linter.unusedVariables false
set_option linter.unusedSimpArgs false
variable {HC : Code}
attribute [local irreducible] Go.Proofs.Ytgfgoflhmikalaa.par.loneP
theorem num_set (b : Nat) : ∀ (l : List Nat) (j : Nat), j < l.length → numN (l.set j (l.getD j 0 ^^^ b)) = numN l ^^^ 2 ^ (8 * j) * b
  | [], j, h => by simp at h
  | a :: l, 0, _ => by
    show (a ^^^ b) ^^^ (256 * numN l) = (a ^^^ (256 * numN l)) ^^^ 2 ^ (8 * 0) * b
    rw [Nat.mul_zero, Nat.pow_zero, Nat.one_mul, Nat.xor_assoc, Nat.xor_comm b, ← Nat.xor_assoc]
  | a :: l, j + 1, h => by
    have ih := num_set b l j (by simpa using h)
    show a ^^^ (256 * numN (l.set j (l.getD j 0 ^^^ b))) = (a ^^^ (256 * numN l)) ^^^ 2 ^ (8 * (j + 1)) * b
    have hp : ∀ x y : Nat, 256 * (x ^^^ y) = (256 * x) ^^^ (256 * y) := fun x y => by
      have h : (x ^^^ y) <<< 8 = x <<< 8 ^^^ y <<< 8 := Nat.shiftLeft_xor_distrib
      simp only [Nat.shiftLeft_eq] at h
      rw [Nat.mul_comm, show (256 : Nat) = 2 ^ 8 from rfl, h, Nat.mul_comm x, Nat.mul_comm y]
    rw [ih, hp, Nat.xor_assoc, show 8 * (j + 1) = 8 + 8 * j from by omega, Nat.pow_add, ← Nat.mul_assoc]
theorem xor_ne {a b : Nat} (h : ¬ b = 0) : ¬ a ^^^ b = a := fun e => by
  have h2 : a ^^^ (a ^^^ b) = a ^^^ a := by rw [e]
  rw [← Nat.xor_assoc, Nat.xor_self, Nat.zero_xor] at h2
  exact h h2
theorem set_by {l : List Nat} (h : By l) (x : Nat) {b : Nat} (hb : b < 256) : By (l.set x (l.getD x 0 ^^^ b)) := by
  intro y hy
  rcases List.mem_or_eq_of_mem_set hy with h1 | h1
  · exact h y h1
  · rw [h1]
    have h2 : l.getD x 0 < 256 := by
      by_cases hj : x < l.length
      · rw [show l.getD x 0 = l[x] from by simp [List.getD, hj]]; exact h _ (List.getElem_mem hj)
      · simp [List.getD, hj]
    exact xor_byte_lt h2 hb
/-- One byte of a frame's body, or of its sum, turned. -/
theorem pf_turn {f : Fr} (h : f.Ok) {q b : Nat} (hq : q < f.2.length + 4) (hb : b < 256) (h0 : ¬ b = 0) (rest : List Nat) :
    pf ((frL f.1 f.2).set (1 + (putN f.2.length).length + q) ((frL f.1 f.2).getD (1 + (putN f.2.length).length + q) 0 ^^^ b) ++ rest) = .bad 4 := by
  obtain ⟨id, body⟩ := f
  dsimp only at *
  have hS := sum_lt (hdL_by h)
  dsimp only at hS
  have hL : (frL id body) = id :: (putN body.length ++ (body ++ le4 (sumN (hdL id body)))) := by rw [frL_cons, List.append_assoc]
  have hset : (frL id body).set (1 + (putN body.length).length + q) ((frL id body).getD (1 + (putN body.length).length + q) 0 ^^^ b) = id :: (putN body.length ++ ((body ++ le4 (sumN (hdL id body))).set q ((body ++ le4 (sumN (hdL id body))).getD q 0 ^^^ b))) := by
    rw [hL, show 1 + (putN body.length).length + q = ((putN body.length).length + q) + 1 from by omega, List.set_cons_succ, List.getD_cons_succ]
    congr 1
    rw [List.set_append, if_neg (by omega), Nat.add_sub_cancel_left]
    congr 2
    simp only [List.getD]
    rw [List.getElem?_append_right (by omega), Nat.add_sub_cancel_left]
  rw [hset]
  by_cases hqb : q < body.length
  · have e1 : (body ++ le4 (sumN (hdL id body))).set q ((body ++ le4 (sumN (hdL id body))).getD q 0 ^^^ b) = body.set q (body.getD q 0 ^^^ b) ++ le4 (sumN (hdL id body)) := by
      rw [List.set_append, if_pos hqb]
      congr 2
      simp only [List.getD]
      rw [List.getElem?_append_left hqb]
    have hlen : (body.set q (body.getD q 0 ^^^ b)).length = body.length := List.length_set
    rw [e1, ← List.append_assoc]
    have := pf_any (id := id) (body := body.set q (body.getD q 0 ^^^ b)) (sum := le4 (sumN (hdL id body))) (rest := rest) h.1 (by rw [hlen]; exact h.2.2) (le4_len _)
    rw [hlen] at this
    rw [this, if_neg]
    intro e
    have hby : By (hdL id (body.set q (body.getD q 0 ^^^ b))) := hdL_by (f := (id, body.set q (body.getD q 0 ^^^ b))) ⟨h.1, set_by h.2.1 q hb, by dsimp only; rw [hlen]; exact h.2.2⟩
    have e2 := le4_inj hS (sum_lt hby) e
    have hj : 1 + (putN body.length).length + q < (hdL id body).length := by simp [hdL]; omega
    have hd : hdL id (body.set q (body.getD q 0 ^^^ b)) = (hdL id body).set (1 + (putN body.length).length + q) ((hdL id body).getD (1 + (putN body.length).length + q) 0 ^^^ b) := by
      unfold hdL
      rw [hlen, show 1 + (putN body.length).length + q = ((putN body.length).length + q) + 1 from by omega, List.set_cons_succ, List.getD_cons_succ]
      congr 1
      rw [List.set_append, if_neg (by omega), Nat.add_sub_cancel_left]
      congr 2
      simp only [List.getD]
      rw [List.getElem?_append_right (by omega), Nat.add_sub_cancel_left]
    have hb2 := burst (hdL id body) (hdL id (body.set q (body.getD q 0 ^^^ b))) (by rw [hd, List.length_set]) (8 * (1 + (putN body.length).length + q)) b (by omega) (by omega) (by
      rw [hd, num_set b _ _ hj, ← Nat.xor_assoc, Nat.xor_self, Nat.zero_xor])
    exact h0 (hb2.1 e2)
  · have e1 : (body ++ le4 (sumN (hdL id body))).set q ((body ++ le4 (sumN (hdL id body))).getD q 0 ^^^ b) = body ++ (le4 (sumN (hdL id body))).set (q - body.length) ((le4 (sumN (hdL id body))).getD (q - body.length) 0 ^^^ b) := by
      rw [List.set_append, if_neg hqb]
      congr 2
      simp only [List.getD]
      rw [List.getElem?_append_right (by omega)]
    have hj : q - body.length < (le4 (sumN (hdL id body))).length := by rw [le4_len]; omega
    rw [e1, ← List.append_assoc, pf_any h.1 h.2.2 (by rw [List.length_set, le4_len]), if_neg]
    intro e
    have := congrArg (fun l => l.getD (q - body.length) 0) e
    simp only [List.getD] at this
    rw [List.getElem?_set_self hj] at this
    exact xor_ne h0 this
def turnB (s : ByteArray) (x b : Nat) : ByteArray := strB ((bytesN s).set x ((bytesN s).getD x 0 ^^^ b))
theorem turnB_size (s : ByteArray) (x b : Nat) : (turnB s x b).size = s.size := by unfold turnB; rw [strB_size, List.length_set, bytesN_len]
theorem turnB_zero (s : ByteArray) (x : Nat) : turnB s x 0 = s := by
  unfold turnB
  rw [Nat.xor_zero]
  have : (bytesN s).set x ((bytesN s).getD x 0) = bytesN s := by
    by_cases h : x < (bytesN s).length
    · rw [show (bytesN s).getD x 0 = (bytesN s)[x] from by simp [List.getD, h]]
      exact List.set_getElem_self h
    · exact List.set_eq_of_length_le (by omega)
  rw [this, strB_bytesN]
/-- The bytes of frames, one of which is turned. -/
def tfB (fs : List GFr) (k x b : Nat) : ByteArray := jB (fs.take k) ++ turnB (frameS (fs.getD k (0, ⟨#[]⟩)).1.toNat (fs.getD k (0, ⟨#[]⟩)).2) x b ++ jB (fs.drop (k + 1))
theorem tf_zero (fs : List GFr) {k : Nat} (hk : k < fs.length) (x : Nat) : tfB fs k x 0 = jB fs := by
  unfold tfB
  rw [turnB_zero, ← jB_snoc fs hk, ← jB_split]
theorem tf_pf {fs : List GFr} (h : Fine fs) {k : Nat} (hk : k < fs.length) {q b : Nat} (hq : q < (fs.getD k (0, ⟨#[]⟩)).2.size + 4) (hb : b < 256) (h0 : ¬ b = 0) (x : Nat) (hx : x = (frameS (fs.getD k (0, ⟨#[]⟩)).1.toNat (fs.getD k (0, ⟨#[]⟩)).2).size - ((fs.getD k (0, ⟨#[]⟩)).2.size + 4) + q) :
    ∃ t : List Nat, bytesN (tfB fs k x b) = joinL ((fs.take k).map ofF) ++ t ∧ pf t = .bad 4 := by
  have hm : fs.getD k (0, ⟨#[]⟩) ∈ fs := by simp [List.getD, hk]
  obtain ⟨hf, hfs⟩ := h _ hm
  unfold tfB
  generalize fs.getD k (0, ⟨#[]⟩) = f at *
  obtain ⟨id, body⟩ := f
  dsimp only at *
  have hN := frameS_N (id := id.toNat) body (by have := hf.2; dsimp only at this; omega)
  have hlen : (frameS id.toNat body).size = 5 + (putN body.size).length + body.size := by rw [← bytesN_len, hN, frL_len, bytesN_len]
  have hx2 : x = 1 + (putN (bytesN body).length).length + q := by rw [hx, hlen, bytesN_len]; omega
  have hok : Fr.Ok (id.toNat, bytesN body) := ofF_ok hf (by dsimp only; omega)
  have hby : By ((frL id.toNat (bytesN body)).set x ((frL id.toNat (bytesN body)).getD x 0 ^^^ b)) := set_by (frL_by hok) x hb
  refine ⟨(frL id.toNat (bytesN body)).set x ((frL id.toNat (bytesN body)).getD x 0 ^^^ b) ++ bytesN (jB (fs.drop (k + 1))), ?_, ?_⟩
  · rw [bytesN_app, bytesN_app, jB_N (h.take k), List.append_assoc]
    unfold turnB
    rw [hN, bytesN_strB hby]
  · rw [hx2]
    exact pf_turn hok (by dsimp only; rw [bytesN_len]; exact hq) hb h0 _
theorem tf_all {fs : List GFr} (h : Fine fs) {k : Nat} (hk : k < fs.length) {q b : Nat} (hq : q < (fs.getD k (0, ⟨#[]⟩)).2.size + 4) (hb : b < 256) (h0 : ¬ b = 0) (x : Nat) (hx : x = (frameS (fs.getD k (0, ⟨#[]⟩)).1.toNat (fs.getD k (0, ⟨#[]⟩)).2).size - ((fs.getD k (0, ⟨#[]⟩)).2.size + 4) + q) :
    allR (tfB fs k x b) = ([], 4) ∧ tk (tfB fs k x b) (jB (fs.take k)).size = .bad 4 := by
  obtain ⟨t, h1, h2⟩ := tf_pf h hk hq hb h0 x hx
  constructor
  · rw [allR_N, h1, allL_join _ _ (h.take k).fr, allL_step (by intro e; rw [e] at h2; cases h2), h2]
    rfl
  · rw [tk_N, h1, ← bytesN_len, jB_N (h.take k), List.drop_left, h2]
end Go.Proofs.Ytgfgoflhmikalaa.fr

namespace Go.Proofs.Ytgfgoflhmikalaa.fr
open Go Go.RowKit Go.Proofs.Ytgfgoflhmikalaa.cm Go.Proofs.Ytgfgoflhmikalaa.cw Go.Proofs.Ytgfgoflhmikalaa.ga Go.Proofs.Ytgfgoflhmikalaa.gr Go.Proofs.Ytgfgoflhmikalaa.lw Go.Proofs.Ytgfgoflhmikalaa.fl
set_option linter.unusedVariables false
set_option linter.unusedSimpArgs false
variable {HC : Code}
attribute [local irreducible] Go.Proofs.Ytgfgoflhmikalaa.par.loneP
theorem rin_tail {α : Type} {k : Nat} {en : α → List Value} {W : World} {b off n cap : Nat} {zs : List α} (h : RIn k en W (.slice (some ⟨b, off, none⟩) n cap) zs) (i : Nat) (hi : i ≤ zs.length) : RIn k en W (.slice (some ⟨b, off + i * k, none⟩) (n - i) (cap - i)) (zs.drop i) := by
  obtain ⟨ad', b', off', cap', e, h1, h2, h3, h4, h5, h6⟩ := h.form
  cases e
  refine RIn.mk (ad := some ⟨b, off + i * k, none⟩) (b := b) (off := off + i * k) (cap := cap - i) (by rw [List.length_drop]) (fun _ => rfl) (fun e => by cases e) (by rw [List.length_drop]; omega) (by omega) (fun h0 => ?_) fun i2 j x y hx hy => ?_
  · rw [List.length_drop] at h0
    have := h1 (by omega)
    cases this
    exact h5 (by omega)
  · rw [List.getElem?_drop] at hx
    have := h6.at hx j y hy
    rw [Nat.add_mul, ← Nat.add_assoc] at this
    exact this
theorem rin_none {α : Type} {k : Nat} {en : α → List Value} {W : World} {a : Addr} {n cap : Nat} {zs : List α} (hz : zs.length = 0) (hn : n = 0) (hc : cap < 9223372036854775808) : RIn k en W (.slice (some a) n cap) zs := by
  subst hn
  have : zs = [] := List.eq_nil_of_length_eq_zero hz
  subst this
  exact RIn.mk (ad := some a) (b := 0) (off := 0) (cap := cap) rfl (fun h => by simp at h) (fun e => by cases e) (by simp) hc (fun h => by simp at h) (fun i j x y hx => by simp at hx)
set_option maxRecDepth 100000 in
set_option maxHeartbeats 16000000 in
theorem sums_walk (hEq : HC = par.Hm) (v0 : Value) (is : List Int) (v1 : Value) (bs : List ByteArray) (which at_ bits_ : Int) (w : World) (h0 : RIn 1 enI w v0 is) (hi : ∀ x ∈ is, -9223372036854775808 ≤ x ∧ x < 9223372036854775808) (h1 : RIn 1 enS w v1 bs) (hb : ∀ s ∈ bs, s.size ≤ maxLen)
    (hw : -9223372036854775808 ≤ which ∧ which < 9223372036854775808) (hat : -9223372036854775808 ≤ at_ ∧ at_ < 9223372036854775808) (hbt : 0 ≤ bits_ ∧ bits_ < 256) :
    Calls (Go.Proofs.Ytgfgoflhmikalaa.par.loneP HC) 6 #[v0, v1, .int .i64 which, .int .i64 at_, .int .u8 bits_] w fun e w' => e = .returned (.bool true) ∧ Below w.heap.size w w' := by
  obtain ⟨b, rfl⟩ := Int.eq_ofNat_of_zero_le hbt.1
  have hb8 : b < 256 := by omega
  have HAW := Lib.hid (fun W => awake_any hEq W)
  have HL := Lib.hid (fun W h0 h1 => list_any (HC := HC) v0 v1 is bs W h0 h1 hi hb)
  have hF := listR_fine is bs
  have hlen : (listR is bs).length ≤ 8 := by rw [listR_len]; omega
  have hsz : ∀ f ∈ listR is bs, f.2.size ≤ 40 := fun f hf => (listR_ok f hf).2
  have H0 := Lib.hid h0
  have H1 := Lib.hid h1
  clear hi hb h0 h1 hbt
  generalize listR is bs = fs at *
  by_cases hemp : fs.length = 0
  · clear hEq hF hsz
    go_enter (Go.Proofs.Ytgfgoflhmikalaa.par.lfun6 (H := HC)), Try.ntmps6
    go_wp2_with fail
    refine (HAW.out _).mono ?_; rintro e w1 ⟨rfl, k1⟩
    go_wp2_with fail
    refine (HL.out _ (H0.out.tr k1) (H1.out.tr k1)).mono ?_; rintro e w2 ⟨v2, rfl, ho2, k2⟩
    have hb2 : Below w.heap.size w w2 := kp_tr k1 k2
    obtain ⟨ad, b2, off, cap, rfl, -, -, -, -, -, -⟩ := (ho2.sees (fun _ => rfl)).form
    rw [hemp]
    clear ho2 k1 k2 H0 H1 HL HAW
    go_wp2_with fail
    go_ret
    exact ⟨rfl, hb2⟩
  obtain ⟨k, hk⟩ : ∃ k : Nat, pickI which fs.length = (k : Int) := Int.eq_ofNat_of_zero_le (pickI_in which (by omega)).1
  have hkl : k < fs.length := by have := (pickI_in which (n := fs.length) (by omega)).2; omega
  have HPK := Lib.hid (fun W => pick_any (HC := HC) which fs.length W (by omega) (by omega) hw.1 hw.2)
  rw [hk] at HPK
  have hx : fs[k]? = some (fs.getD k (0, ⟨#[]⟩)) := by simp [List.getD, hkl]
  have HX0 := Lib.hid hx
  have hfo := hF _ (List.mem_of_getElem? hx)
  have hf40 := hsz _ (List.mem_of_getElem? hx)
  have HTA := Lib.hid (fun (q : Nat) hq h0 x hx => tf_all hF hkl (q := q) (b := b) hq hb8 h0 x hx)
  have HTZ := Lib.hid (fun x => tf_zero fs hkl x)
  have HTJ := Lib.hid (tk_join ⟨#[]⟩ hF hkl)
  have HAF := Lib.hid (jB_all hF)
  have HBT := Lib.hid (jB_all (hF.take k))
  have htf : Hid (∀ x, tfB fs k x b = jB (fs.take k) ++ turnB (frameS (fs.getD k (0, ⟨#[]⟩)).1.toNat (fs.getD k (0, ⟨#[]⟩)).2) x b ++ jB (fs.drop (k + 1))) := Lib.hid (fun x => rfl)
  have hone := frameS_size (fs.getD k (0, ⟨#[]⟩)).1.toNat (fs.getD k (0, ⟨#[]⟩)).2 (by omega)
  have hlow : (fs.getD k (0, ⟨#[]⟩)).2.size + 4 ≤ (frameS (fs.getD k (0, ⟨#[]⟩)).1.toNat (fs.getD k (0, ⟨#[]⟩)).2).size := by
    rw [← bytesN_len (frameS _ _), frameS_N _ (by have := hfo.1.2; omega), frL_len, bytesN_len]
    omega
  have hs1 : (jB (fs.take k)).size < 1000 := by
    have h1 := jB_size_le (fs := fs.take k) (m := 40) (fun f hf => hsz f (List.mem_of_mem_take hf)) (by omega)
    rw [List.length_take] at h1
    have : min k fs.length * (40 + 15) ≤ 8 * 55 := Nat.mul_le_mul (by omega) (by omega)
    omega
  have hs2 : (jB (fs.drop (k + 1))).size < 1000 := by
    have h1 := jB_size_le (fs := fs.drop (k + 1)) (m := 40) (fun f hf => hsz f (List.mem_of_mem_drop hf)) (by omega)
    rw [List.length_drop] at h1
    have : (fs.length - (k + 1)) * (40 + 15) ≤ 8 * 55 := Nat.mul_le_mul (by omega) (by omega)
    omega
  have HJT := Lib.hid (fun v W (h : RIn 2 encF W v (fs.take k)) => (by
    have h := join_any (HC := HC) v (fs.take k) W h (by rw [List.length_take]; omega) (hF.take k).sz (hF.take k).i64
    rw [jB_R (hF.take k)] at h
    exact h : Calls (Go.Proofs.Ytgfgoflhmikalaa.par.loneP HC) 11 #[v] W fun e w' => e = .returned (.tuple #[.string (jB (fs.take k)), .int .i64 0]) ∧ Below W.heap.size W w'))
  have HJD := Lib.hid (fun v W (h : RIn 2 encF W v (fs.drop (k + 1))) => (by
    have h := join_any (HC := HC) v (fs.drop (k + 1)) W h (by rw [List.length_drop]; omega) (hF.drop (k + 1)).sz (hF.drop (k + 1)).i64
    rw [jB_R (hF.drop (k + 1))] at h
    exact h : Calls (Go.Proofs.Ytgfgoflhmikalaa.par.loneP HC) 11 #[v] W fun e w' => e = .returned (.tuple #[.string (jB (fs.drop (k + 1))), .int .i64 0]) ∧ Below W.heap.size W w'))
  have HPUT := Lib.hid (fun W => fput_any (HC := HC) (fs.getD k (0, ⟨#[]⟩)).1.toNat (fs.getD k (0, ⟨#[]⟩)).2 W (by have := hfo.1.1; omega) (by have := hfo.1.2; omega) (by omega))
  have HALL := Lib.hid (fun u W h => all_any hEq u W h)
  have HTAK := Lib.hid (fun u p W h h2 => ftake_any hEq u p W h h2)
  clear hEq hsz hF hx hk hw
  have HFD : Hid (fs.getD k (0, ⟨#[]⟩) = fs.getD k (0, ⟨#[]⟩)) := Lib.hid rfl
  clear HFD
  generalize fs.getD k (0, ⟨#[]⟩) = f at *
  obtain ⟨id, body⟩ := f
  dsimp only at *
  obtain ⟨⟨i1, i2⟩, hbs⟩ := hfo
  dsimp only at i1 i2
  have hid : ((id.toNat : Nat) : Int) = id := by omega
  rw [hid] at HPUT
  generalize frameS id.toNat body = one at *
  generalize jB (fs.take k) = A at *
  generalize jB (fs.drop (k + 1)) = Z at *
  go_enter (Go.Proofs.Ytgfgoflhmikalaa.par.lfun6 (H := HC)), Try.ntmps6
  go_wp2_with fail
  refine (HAW.out _).mono ?_; rintro e w1 ⟨rfl, k1⟩
  go_wp2_with fail
  refine (HL.out _ (H0.out.tr k1) (H1.out.tr k1)).mono ?_; rintro e w2 ⟨v2, rfl, ho2, k2⟩
  have hb2 : Below w.heap.size w w2 := kp_tr k1 k2
  have hv2 := ho2.sees (fun _ => rfl)
  clear k1 k2 ho2 H0 H1 HL HAW
  obtain ⟨ad, b2, off, cap, rfl, q1, q2, q3, q4, q5, hX⟩ := hv2.form
  obtain rfl := q1 (by omega)
  have hbl := q5 (by omega)
  have x0 := hX.at HX0.out 0 _ rfl
  have x1 := hX.at HX0.out 1 _ rfl
  rw [Nat.add_zero] at x0
  have HX := Lib.hid hX
  clear q1 q2 q5 hX hv2 HX0
  have hkc : (k : Int) ≤ (fs.length : Int) := by omega
  have hkc2 : (k : Int) < (fs.length : Int) := by omega
  have hkc3 : (k : Int) ≤ (cap : Int) := by omega
  have hkc4 : (k : Int) + 1 ≤ (fs.length : Int) := by omega
  have hne0 : ¬ (fs.length : Int) = 0 := by omega
  go_wp2_with fail
  refine (HPK.out _).mono ?_; rintro e ww ⟨rfl, rfl⟩
  go_wp2_with fail
  refine (HJT.out _ _ (rin_head HX.out k (by omega))).mono ?_; rintro e w3 ⟨rfl, k3⟩
  have y0 := cell_tr k3 x0
  have y1 := cell_tr k3 x1
  have HB3 : Hid (Below w.heap.size w w3) := Lib.hid (kp_tr hb2 k3)
  have hbl3 : b2 < w3.heap.size := Nat.lt_of_lt_of_le hbl k3.size
  have HX3 := Lib.hid (HX.out.tr k3)
  clear k3 HJT hb2 x0 x1 hbl HX HPK
  go_wp2_with fail
  go_region_held3 (fun w' => w'.cell? ⟨b2, off + k * 2, none⟩ = some (.int .i64 id) ∧ w'.cell? ⟨b2, off + k * 2 + 1, none⟩ = some (.string body))
    ((refine s2_tr (W := w3) ?_ ⟨y0, y1⟩; (repeat (first | with_reducible exact Below.refl _ _ | with_reducible refine kp_alloc ?_ _ | with_reducible refine kp_drew ?_ | with_reducible refine kp_set ?_ (by first | omega | (simp; done) | (simp; omega)) _ | with_reducible refine kp_tr ?_ (by with_reducible assumption)))))
    (first
      | (go_at_call 13; refine (HPUT.out _).mono ?_; rintro e w4 ⟨rfl, k4⟩))
  have hk4 : Below w3.heap.size w3 w4 := by (repeat (first | with_reducible exact Below.refl _ _ | with_reducible refine kp_alloc ?_ _ | with_reducible refine kp_drew ?_ | with_reducible refine kp_set ?_ (by first | omega | (simp; done) | (simp; omega)) _ | with_reducible refine kp_tr ?_ (by with_reducible assumption)))
  have z0 := cell_tr hk4 y0
  have z1 := cell_tr hk4 y1
  have HB4 : Hid (Below w.heap.size w w4) := Lib.hid (kp_tr HB3.out hk4)
  have hbl4 : b2 < w4.heap.size := Nat.lt_of_lt_of_le hbl3 hk4.size
  have HX4 := Lib.hid (HX3.out.tr hk4)
  clear k4 hk4 HPUT HB3 y0 y1 hbl3 HX3
  have hce2 : cap = k + 1 ∨ ¬ cap = k + 1 := Decidable.em _
  rcases hce2 with rfl | hce
  all_goals
    go_wp2_with fail
    refine (HJD.out _ _ (by first | exact rin_tail HX4.out (k + 1) (by omega) | exact rin_none (by rw [List.length_drop]; omega) (by omega) (by omega))).mono ?_; rintro e w5 ⟨rfl, k5⟩
    have y0 := cell_tr k5 z0
    have y1 := cell_tr k5 z1
    have HB5 : Hid (Below w.heap.size w w5) := Lib.hid (kp_tr HB4.out k5)
    have hbl5 : b2 < w5.heap.size := Nat.lt_of_lt_of_le hbl4 k5.size
    have HX5 := Lib.hid (HX4.out.tr k5)
    clear k5 HJD HB4 z0 z1 hbl4 HX4
    have hcv := fun w => run_bytes_of_string (P := (Go.Proofs.Ytgfgoflhmikalaa.par.loneP HC)) w 9 45 5 one ((Go.Proofs.Ytgfgoflhmikalaa.par.lon_underlying HC 9).trans Try.underlying9) ((Go.Proofs.Ytgfgoflhmikalaa.par.lon_underlying HC 45).trans Try.underlying45) ((Go.Proofs.Ytgfgoflhmikalaa.par.lon_underlying HC 5).trans Try.underlying5)
    go_wp2_with fail
    have hR : RowI (w5.alloc (.cells (bytesRow one (grownCap w5 one.size 0 5)) 5 ((bytesRow one (grownCap w5 one.size 0 5)).size, (bytesRow one (grownCap w5 one.size 0 5)).size + 1))).drew w5.heap.size ((bytesN one).map fun b : Nat => (b : Int)) := (RowI.str w5 one _).drew
    have hb1 : Below w5.heap.size w5 (w5.alloc (.cells (bytesRow one (grownCap w5 one.size 0 5)) 5 ((bytesRow one (grownCap w5 one.size 0 5)).size, (bytesRow one (grownCap w5 one.size 0 5)).size + 1))).drew := by (repeat (first | with_reducible exact Below.refl _ _ | with_reducible refine kp_alloc ?_ _ | with_reducible refine kp_drew ?_ | with_reducible refine kp_set ?_ (by first | omega | (simp; done) | (simp; omega)) _ | with_reducible refine kp_tr ?_ (by with_reducible assumption)))
    have hlW : w5.heap.size < (w5.alloc (.cells (bytesRow one (grownCap w5 one.size 0 5)) 5 ((bytesRow one (grownCap w5 one.size 0 5)).size, (bytesRow one (grownCap w5 one.size 0 5)).size + 1))).drew.heap.size := by simp
    generalize (w5.alloc (.cells (bytesRow one (grownCap w5 one.size 0 5)) 5 ((bytesRow one (grownCap w5 one.size 0 5)).size, (bytesRow one (grownCap w5 one.size 0 5)).size + 1))).drew = W at *
    generalize grownCap w5 one.size 0 5 = cc at *
    have hl : ((bytesN one).map fun b : Nat => (b : Int)).length = one.size := by rw [List.length_map, bytesN_len]
    have HB1 := Lib.hid hb1
    have HBW : Hid (Below w.heap.size w W) := Lib.hid (kp_tr HB5.out hb1)
    have hn5 : w.heap.size ≤ w5.heap.size := HB5.out.size
    have HRW := Lib.hid hR
    clear hcv hb1 hR HB5 y0 y1 hbl5
    obtain ⟨q, hq⟩ : ∃ q : Nat, pickI at_ (body.size + 4) = (q : Int) := Int.eq_ofNat_of_zero_le (pickI_in at_ (by omega)).1
    have hql : q < body.size + 4 := by have := (pickI_in at_ (n := body.size + 4) (by omega)).2; omega
    refine (pick_any at_ (body.size + 4) _ (by omega) (by omega) hat.1 hat.2).mono ?_; rintro e ww ⟨rfl, rfl⟩
    rw [hq]
    obtain ⟨X, hX⟩ : ∃ X : Nat, X = one.size - (body.size + 4) + q := ⟨_, rfl⟩
    have hXi : (one.size : Int) - ((body.size : Int) + 4) + (q : Int) = (X : Int) := by omega
    have hXl : X < one.size := by omega
    obtain ⟨hc1, hf1⟩ := HRW.out.at (i := X) (by omega)
    have hget : ((bytesN one).map fun b : Nat => (b : Int)).getD X 0 = (((bytesN one).getD X 0 : Nat) : Int) := by simp [List.getD, List.getElem?_map, show X < (bytesN one).length by rw [bytesN_len]; exact hXl]
    rw [hget] at hc1
    have hy8 : (bytesN one).getD X 0 < 256 := by
      rw [show (bytesN one).getD X 0 = (bytesN one)[X]'(by rw [bytesN_len]; exact hXl) from by simp [List.getD, show X < (bytesN one).length by rw [bytesN_len]; exact hXl]]
      exact bytesN_lt one _ (List.getElem_mem _)
    have hxor := u8_xor_nat _ b hy8 hb8
    have hset : ∀ v : Int, v = (((bytesN one).getD X 0 ^^^ b : Nat) : Int) → strOfNums (((bytesN one).map fun b : Nat => (b : Int)).set X v) = turnB one X b := fun v hv => by
      rw [hv]
      unfold turnB strB
      rw [List.map_set]
    have hsm := hset _ rfl
    have HTA2 := Lib.hid (fun h0 => HTA.out q hql h0 X hX)
    have htf2 := htf.out X
    have HTZ2 := HTZ.out X
    generalize (bytesN one).getD X 0 = y at *
    have hR2 := HRW.out.set (k := X) (by omega) ((y ^^^ b : Nat) : Int)
    have hcv2 := hR2.conv (HC := HC) one.size cc (by rw [List.length_set]; exact hl)
    rw [hsm] at hcv2
    have hTs := turnB_size one X b
    generalize turnB one X b = TT at *
    have hbW : Below w.heap.size w (W.setCell ⟨w5.heap.size, X, none⟩ (.int .u8 ((y ^^^ b : Nat) : Int))) := by have := HBW.out; (repeat (first | with_reducible exact Below.refl _ _ | with_reducible refine kp_alloc ?_ _ | with_reducible refine kp_drew ?_ | with_reducible refine kp_set ?_ (by first | omega | (simp; done) | (simp; omega)) _ | with_reducible refine kp_tr ?_ (by with_reducible assumption)))
    have hbl5 : Hid (Below w5.heap.size W (W.setCell ⟨w5.heap.size, X, none⟩ (.int .u8 ((y ^^^ b : Nat) : Int)))) := Lib.hid (by
      refine ⟨rfl, rfl, rfl, by simp [World.setCell], fun j hj => Below.heap_setCell _ _ _ _ (by show j ≠ w5.heap.size; omega)⟩)
    have ad1 := add_run (HC := HC) A TT (by omega)
    have ad2 := add_run (HC := HC) (A ++ TT) Z (by rw [ByteArray.size_append]; omega)
    have hSz : (A ++ TT ++ Z).size < 10000 := by rw [ByteArray.size_append, ByteArray.size_append]; omega
    have hex : (A ++ TT ++ Z).extract 0 A.size = A := by
      have := ext_app A (TT ++ Z) 0
      rw [← ByteArray.append_assoc, Nat.add_zero] at this
      rw [this]
      apply bytesN_inj
      rw [bytesN_app, bytesN_ext]
      simp
    have hAle : (A.size : Int) ≤ ((A ++ TT ++ Z).size : Int) := by rw [ByteArray.size_append, ByteArray.size_append]; omega
    have HS1 := Lib.hid (fun W => HALL.out (A ++ TT ++ Z) W (by omega))
    have HS2 := Lib.hid (fun W => HTAK.out (A ++ TT ++ Z) A.size W (by omega) (by omega))
    have HS3 := Lib.hid (fun W => HALL.out A W (by omega))
    rw [HBT.out] at HS3
    have HX6 := Lib.hid (rin_head (HX5.out.tr (HB1.out.trans hbl5.out)) k (by omega))
    have HB6 := Lib.hid hbW
    clear hR2 hsm hset HALL HTAK HTA htf HTZ HRW HX5 HB1 hbl5 hbW
    generalize hW6 : W.setCell ⟨w5.heap.size, X, none⟩ (.int .u8 ((y ^^^ b : Nat) : Int)) = W6 at *
    clear hXi hl hq
    by_cases hb0 : b = 0
    · have hb0i : Hid ((b : Int) = 0) := Lib.hid (by omega)
      have hTZ3 : tfB fs k X b = jB fs := by rw [hb0]; exact HTZ2
      have hTJ := HTJ.out
      rw [show (⟨#[]⟩ : ByteArray) ++ jB fs = jB fs from by apply bytesN_inj; rw [bytesN_app]; rfl, ← hTZ3, htf2, show (⟨#[]⟩ : ByteArray).size = 0 from rfl, Nat.zero_add] at hTJ
      rw [hTJ] at HS2
      rw [← htf2, hTZ3, HAF.out, ← hTZ3, htf2] at HS1
      clear hTJ HTA2 HTZ2 HTJ hTZ3 htf2 HAF HBT hb0
      subst hX
      go_wp2_with fail
      refine (HS1.out _).mono ?_; rintro e w8 ⟨v8, rfl, hv8, k8⟩
      have HB8 : Hid (Below w.heap.size w w8) := Lib.hid (kp_tr HB6.out k8)
      have HX8 := Lib.hid (HX6.out.tr k8)
      clear hv8 k8 HX6 HB6 HS1
      go_wp2_with fail
      refine (HS2.out _).mono ?_; rintro e w9 ⟨rfl, k9⟩
      simp only [tkV, frV]
      have HB9 : Hid (Below w.heap.size w w9) := Lib.hid (kp_tr HB8.out k9)
      have HX9 := Lib.hid (HX8.out.tr k9)
      clear k9 HX8 HB8 HS2
      go_wp2_with fail
      refine (HS3.out _).mono ?_; rintro e w10 ⟨v10, rfl, hv10, k10⟩
      have HB10 : Hid (Below w.heap.size w w10) := Lib.hid (by have := HB9.out; (repeat (first | with_reducible exact Below.refl _ _ | with_reducible refine kp_alloc ?_ _ | with_reducible refine kp_drew ?_ | with_reducible refine kp_set ?_ (by first | omega | (simp; done) | (simp; omega)) _ | with_reducible refine kp_tr ?_ (by with_reducible assumption))))
      have HX10 := Lib.hid (HX9.out.tr (w := w10) (by (repeat (first | with_reducible exact Below.refl _ _ | with_reducible refine kp_alloc ?_ _ | with_reducible refine kp_drew ?_ | with_reducible refine kp_set ?_ (by first | omega | (simp; done) | (simp; omega)) _ | with_reducible refine kp_tr ?_ (by with_reducible assumption)))))
      have HV10 := Lib.hid hv10
      clear k10 HX9 HB9 HS3 hv10
      have hb0j := hb0i.out
      go_wp2_with fail
      refine (same_any _ _ (fs.take k) (fs.take k) _ HV10.out HX10.out).mono ?_; rintro e w11 ⟨rfl, k11⟩
      rw [decide_eq_true rfl]
      have HB11 : Hid (Below w.heap.size w w11) := Lib.hid (kp_tr HB10.out k11)
      clear k11 HV10 HX10 HB10
      go_wp2_with fail
      go_ret
      exact ⟨rfl, HB11.out⟩
    · have hb0i : ¬ (b : Int) = 0 := by omega
      obtain ⟨hA1, hA2⟩ := HTA2.out hb0
      rw [htf2] at hA1 hA2
      rw [hA1] at HS1
      rw [hA2] at HS2
      clear hA1 hA2 HTA2 HTZ2 HTJ htf2 HAF HBT
      subst hX
      go_wp2_with fail
      refine (HS1.out _).mono ?_; rintro e w8 ⟨v8, rfl, hv8, k8⟩
      have HB8 : Hid (Below w.heap.size w w8) := Lib.hid (kp_tr HB6.out k8)
      have HX8 := Lib.hid (HX6.out.tr k8)
      clear hv8 k8 HX6 HB6 HS1
      go_wp2_with fail
      refine (HS2.out _).mono ?_; rintro e w9 ⟨rfl, k9⟩
      simp only [tkV, frV]
      have HB9 : Hid (Below w.heap.size w w9) := Lib.hid (kp_tr HB8.out k9)
      have HX9 := Lib.hid (HX8.out.tr k9)
      clear k9 HX8 HB8 HS2
      go_wp2_with fail
      refine (HS3.out _).mono ?_; rintro e w10 ⟨v10, rfl, hv10, k10⟩
      have HB10 : Hid (Below w.heap.size w w10) := Lib.hid (by have := HB9.out; (repeat (first | with_reducible exact Below.refl _ _ | with_reducible refine kp_alloc ?_ _ | with_reducible refine kp_drew ?_ | with_reducible refine kp_set ?_ (by first | omega | (simp; done) | (simp; omega)) _ | with_reducible refine kp_tr ?_ (by with_reducible assumption))))
      have HX10 := Lib.hid (HX9.out.tr (w := w10) (by (repeat (first | with_reducible exact Below.refl _ _ | with_reducible refine kp_alloc ?_ _ | with_reducible refine kp_drew ?_ | with_reducible refine kp_set ?_ (by first | omega | (simp; done) | (simp; omega)) _ | with_reducible refine kp_tr ?_ (by with_reducible assumption)))))
      have HV10 := Lib.hid hv10
      clear k10 HX9 HB9 HS3 hv10
      skip
      go_wp2_with fail
      refine (same_any _ _ (fs.take k) (fs.take k) _ HV10.out HX10.out).mono ?_; rintro e w11 ⟨rfl, k11⟩
      rw [decide_eq_true rfl]
      have HB11 : Hid (Below w.heap.size w w11) := Lib.hid (kp_tr HB10.out k11)
      clear k11 HV10 HX10 HB10
      go_wp2_with fail
      go_ret
      exact ⟨rfl, HB11.out⟩
end Go.Proofs.Ytgfgoflhmikalaa.fr

namespace Go.Proofs.Ytgfgoflhmikalaa.framesSumsLaw
open Go.Proofs.Ytgfgoflhmikalaa Go.Proofs.Ytgfgoflhmikalaa.par
open Go Go.ChangeShapes Go.WideShapes Go.ChangeAt Go.RowKit Go.Joins Go.Conc Go.ConcM
open Go.ChangeMaps (open_string shut_string)
set_option linter.unusedVariables false
set_option linter.unusedSimpArgs false
attribute [local irreducible] Go.Proofs.Ytgfgoflhmikalaa.par.loneP
theorem own : ownKnob Try.prog.godebug = none := by kernel_rfl
theorem laidOut : laidOutB Try.prog = true := by kernel_rfl
theorem nospec : ¬ Sp 6 := by unfold Sp; decide
theorem bothLaw : Both (loneF Hm) Try.prog.funcs 6 := ⟨_, _, _, _, (lone_funcs (H := Hm)) ▸ lfun6 (H := Hm), Try.func6, rfl, rfl⟩

set_option maxRecDepth 100000 in
theorem lifted (os : Os) (started : os.Started) (H : Type) (enc : TypeId × Value → H) (SF : Stop.Interp) :
    ReturnsInLeavingWide Rows.framesSumsRow.assume Try.checked os 6 .any (Rows.framesSumsSpec.pre6 enc Try.prog Try.f6 Rows.framesSumsRow.domain false) ((OpenSpec.ofChange Rows.framesSumsSpec).postWith enc Try.prog Try.f6 SF (outsideKept [.timePasses]) false true false) := by
  refine returnsInLeavingWide_of_change_time (C := Try.checked) own started Try.func6
    (ChangeSpec.witness6c (enc := enc) (C := Try.checked) ⟨#[], #[.slice none 0 0, .slice none 0 0, .int .i64 0, .int .i64 0, .int .u8 0], []⟩ 8 (by kernel_rfl) (by kernel_rfl) (by kernel_rfl) (by kernel_rfl)) ?_
  intro W base args ds gs before hval0 hW _ _ _
  have hval : ∀ (j : Nat) t v, Try.f6.params[j]? = some t → args[j]? = some v → Value.okWide Try.prog W .any base t v := hval0
  have hW' := hW
  obtain ⟨p, q, hA0, hV, rfl, hfz, hnd⟩ := hW
  have hA : DataW.TrodAll enc Try.prog W 0 (fun _ => true) true Try.f6.params.toList args.toList ds p := hA0
  rw [Try.params6] at hA hval
  obtain ⟨v0, vs0, d0, ds0, p0, q0', hargs, rfl, rfl, h0, r0⟩ := trodAll_cons hA
  obtain ⟨v1, vs1, d1, ds1, p1, q1', rfl, rfl, rfl, h1, r1⟩ := trodAll_cons r0
  obtain ⟨v2, vs2, d2, ds2, p2, q2', rfl, rfl, rfl, h2, r2⟩ := trodAll_cons r1
  obtain ⟨v3, vs3, d3, ds3, p3, q3', rfl, rfl, rfl, h3, r3⟩ := trodAll_cons r2
  obtain ⟨v4, vs4, d4, ds4, p4, q4', rfl, rfl, rfl, h4, r4⟩ := trodAll_cons r3
  obtain ⟨rfl, rfl, rfl⟩ := trodAll_nil r4
  obtain rfl : args = #[v0, v1, v2, v3, v4] := by cases args; simp_all
  obtain ⟨rfl, rfl⟩ := trodVars_none hV
  have k0 := h0
  have lt0 : ∀ x ∈ p0, x.block < W.heap.size := by obtain ⟨m, hm⟩ := k0; exact DataW.trod_lt m _ _ _ hm
  have k1 := h1
  have lt1 : ∀ x ∈ p1, x.block < W.heap.size := by obtain ⟨m, hm⟩ := k1; exact DataW.trod_lt m _ _ _ hm
  have k2 := h2
  have lt2 : ∀ x ∈ p2, x.block < W.heap.size := by obtain ⟨m, hm⟩ := k2; exact DataW.trod_lt m _ _ _ hm
  have k3 := h3
  have lt3 : ∀ x ∈ p3, x.block < W.heap.size := by obtain ⟨m, hm⟩ := k3; exact DataW.trod_lt m _ _ _ hm
  have k4 := h4
  have lt4 : ∀ x ∈ p4, x.block < W.heap.size := by obtain ⟨m, hm⟩ := k4; exact DataW.trod_lt m _ _ _ hm
  have q0 := lw.vr_slice Try.underlying23 (hval 0 23 v0 rfl rfl)
  have q1 := lw.vr_slice Try.underlying24 (hval 1 24 v1 rfl rfl)
  have q2 := lw.vr_int Try.underlying3 (hval 2 3 v2 rfl rfl)
  have q3 := lw.vr_int Try.underlying3 (hval 3 3 v3 rfl rfl)
  have q4 := lw.vr_int Try.underlying5 (hval 4 5 v4 rfl rfl)
  have hvr := lw.vrs_of (W := W) (args := #[v0, v1, v2, v3, v4]) (fun v hv => by simp at hv; rcases hv with rfl | rfl | rfl | rfl | rfl <;> assumption)
  clear q0 q1 q2 q3 q4
  obtain ⟨a0, w0, x0⟩ := lw.ints_arg Try.underlying23 Try.underlying3 (by kernel_rfl) (hval 0 23 v0 rfl rfl) h0
  obtain ⟨a1, w1, x1⟩ := lw.strs_arg Try.underlying24 Try.underlying9 (by kernel_rfl) (hval 1 24 v1 rfl rfl) h1
  obtain ⟨a2, rfl, rfl, rfl, w2⟩ := open_int Try.underlying3 (hval 2 3 v2 rfl rfl) h2
  obtain ⟨a3, rfl, rfl, rfl, w3⟩ := open_int Try.underlying3 (hval 3 3 v3 rfl rfl) h3
  obtain ⟨a4, rfl, rfl, rfl, w4⟩ := open_int Try.underlying5 (hval 4 5 v4 rfl rfl) h4
  clear hA0 hval0
  obtain ⟨M, last, o, w', t', r1, r2, r3, v, e, ⟨rfl, bel⟩, g1, g2, g3, g4⟩ := main_law Try.func6 Try.results6 (lfun6 (H := Hm)) Try.results6 (by kernel_rfl) nospec bothLaw (Nat.zero_le _) hvr hold_ok hold_one (fun τ => by
    have h := fr.sums_walk (HC := Hm) rfl v0 a0 v1 a1 a2 a3 a4 (tp (cleanW W) τ) (lw.clean_rin w0 lw.enI_clv τ) x0 (lw.clean_rin w1 lw.enS_clv τ) x1 (wfb_i64 w2) (wfb_i64 w3) (wfb_u8 w4)
    have e : (tp (cleanW W) τ).heap.size = W.heap.size := clean_size W
    rw [e] at h
    exact h)
  refine ⟨M, last, o, w', t', r1, r2, r3, _, e, ⟨?_, by rw [bel.os]; exact OsLater.refl _⟩, g1, g2, g3, g4⟩
  have bel2 : Below W.heap.size W { w' with os := W.os } := ⟨rfl, bel.tape, bel.output, bel.size, bel.block⟩
  exact ⟨_, _, _, [], _, [], hW', trodAll_mk1 (shut_bool Try.underlying4 _), (trodAll_cons_mk (Below.trod laidOut (by kernel_rfl) (of_decide_eq_true (by kernel_rfl)) k0 bel2 lt0) (trodAll_cons_mk (Below.trod laidOut (by kernel_rfl) (of_decide_eq_true (by kernel_rfl)) k1 bel2 lt1) (trodAll_cons_mk (Below.trod laidOut (by kernel_rfl) (of_decide_eq_true (by kernel_rfl)) k2 bel2 lt2) (trodAll_cons_mk (Below.trod laidOut (by kernel_rfl) (of_decide_eq_true (by kernel_rfl)) k3 bel2 lt3) (trodAll_cons_mk (Below.trod laidOut (by kernel_rfl) (of_decide_eq_true (by kernel_rfl)) k4 bel2 lt4) trodAll_mk0))))), rfl, bel2.frame _, fun h => by cases h⟩

theorem over : Rows.framesSumsRow.holds Try.pinned (OpenSpec.ofChange Rows.framesSumsSpec) :=
  OpenClaim.holds_of_wide_leaving_time 6 Try.f6 rfl rfl rfl rfl rfl rfl rfl ⟨rfl, rfl, rfl, rfl, rfl⟩ rfl rfl rfl rfl rfl (by kernel_rfl) Try.func6 (by kernel_rfl)
    (of_decide_eq_true (by kernel_rfl)) (by unfold Func.isWrapper; first | (rw [if_pos (by decide +kernel)]; kernel_rfl) | (rw [if_neg (by decide +kernel)]; exact ⟨rfl, rfl⟩))
    (fun os started H enc _ SF => lifted os started H enc SF)

theorem proved : Rows.FramesSumsSaid := over
end Go.Proofs.Ytgfgoflhmikalaa.framesSumsLaw
