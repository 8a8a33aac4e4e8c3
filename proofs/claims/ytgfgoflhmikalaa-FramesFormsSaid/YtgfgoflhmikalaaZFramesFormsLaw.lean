/- The statement Rows.FramesFormsSaid (cromlech/cromlechlaw04.FramesForms), out of its walk. Conditions: none but the statement's own. -/
import Derived.Test.YtgfgoflhmikalaaM35
import Derived.Deep.RegionWith
import Derived.Test.YtgfgoflhmikalaaRows
import Derived.WalkKit
import Derived.ProofKit
import Derived.OpenShut
import Derived.ShutString
import Derived.ChangeOld
import Derived.Below
import Derived.Lib.SmallJoins
import Derived.Conc.HoldsTime
namespace Go.Proofs.Ytgfgoflhmikalaa.fr
open Go Go.RowKit Go.Proofs.Ytgfgoflhmikalaa.cm Go.Proofs.Ytgfgoflhmikalaa.cw Go.Proofs.Ytgfgoflhmikalaa.ga Go.Proofs.Ytgfgoflhmikalaa.gr Go.Proofs.Ytgfgoflhmikalaa.lw Go.Proofs.Ytgfgoflhmikalaa.fl
set_option linter.unusedVariables false
set_option linter.unusedSimpArgs false
variable {HC : Code}
attribute [local irreducible] Go.Proofs.Ytgfgoflhmikalaa.par.loneP
/-- A row of bytes, of one's own, from a block's head. -/
def RowI (w : World) (n : Nat) (xs : List Int) : Prop := ∀ i, i < xs.length → w.cell? ⟨n, i, none⟩ = some (.int .u8 (xs.getD i 0)) ∧ w.frozen? ⟨n, i, none⟩ = false
theorem RowI.at {w : World} {n : Nat} {xs : List Int} (h : RowI w n xs) {i : Nat} (hi : i < xs.length) : w.cell? ⟨n, i, none⟩ = some (.int .u8 (xs.getD i 0)) ∧ w.frozen? ⟨n, i, none⟩ = false := h i hi
theorem RowI.tr {W w : World} {n : Nat} {xs : List Int} (h : RowI W n xs) (hb : Below W.heap.size W w) : RowI w n xs := fun i hi => by
  obtain ⟨h1, h2⟩ := h i hi
  exact ⟨cell_tr hb h1, (hb.frozen (p := ⟨n, i, none⟩) (World.block_lt_of_cell? _ _ h1)).trans h2⟩
theorem RowI.drew {w : World} {n : Nat} {xs : List Int} (h : RowI w n xs) : RowI w.drew n xs := h
theorem RowI.set {w : World} {n k : Nat} {xs : List Int} (h : RowI w n xs) (hk : k < xs.length) (v : Int) : RowI (w.setCell ⟨n, k, none⟩ (.int .u8 v)) n (xs.set k v) := fun i hi => by
  rw [List.length_set] at hi
  obtain ⟨h1, h2⟩ := h i hi
  by_cases e : i = k
  · subst e
    exact ⟨by rw [World.cell?_setCell_same _ _ _ h1]; simp [List.getD, hi], by simpa using h2⟩
  · refine ⟨?_, by simpa using h2⟩
    rw [World.cell?_setCell_other _ _ _ _ (fun q => e (by have q2 := congrArg Addr.off q; first | exact q2 | exact q2.symm)), h1]
    simp [List.getD, Ne.symm e]
theorem RowI.str (w : World) (s : ByteArray) (c : Nat) : RowI (w.alloc (.cells (bytesRow s c) 5 ((bytesRow s c).size, (bytesRow s c).size + 1))) w.heap.size ((bytesN s).map fun b : Nat => (b : Int)) := fun i hi => by
  rw [List.length_map, bytesN_len] at hi
  have hsz : i < (bytesRow s c).size := by
    have := bytesRow_at s c i hi
    rcases Nat.lt_or_ge i (bytesRow s c).size with h | h
    · exact h
    · rw [Array.getElem?_eq_none h] at this; cases this
  rw [World.cell?_alloc_mark, bytesRow_at s c i hi, World.frozen?_alloc_mark]
  refine ⟨by simp [bytesN, List.getD, hi], ?_⟩
  rw [decide_eq_false (by omega)]
  rfl
theorem RowI.conv {w : World} {n : Nat} {xs : List Int} (h : RowI w n xs) (m c : Nat) (hm : xs.length = m) :
    (convert 45 9 (.slice (some ⟨n, 0, none⟩) m c)).run (Go.Proofs.Ytgfgoflhmikalaa.par.loneP HC) w = .ok (.string (strOfNums xs)) w := by
  refine run_convert_bytes_arg (P := (Go.Proofs.Ytgfgoflhmikalaa.par.loneP HC)) w 45 5 ((Go.Proofs.Ytgfgoflhmikalaa.par.lon_underlying HC 45).trans Try.underlying45) ((Go.Proofs.Ytgfgoflhmikalaa.par.lon_underlying HC 5).trans Try.underlying5) n 0 m c xs hm (fun i hi => ?_) 9 ((Go.Proofs.Ytgfgoflhmikalaa.par.lon_underlying HC 9).trans Try.underlying9)
  rw [Nat.zero_add, (h.at (by omega)).1]
attribute [irreducible] RowI
theorem wrap_in (n : Int) : -9223372036854775808 ≤ IntKind.i64.wrap n ∧ IntKind.i64.wrap n < 9223372036854775808 := by
  simp only [IntKind.wrap, IntKind.signed, IntKind.bits]; simp; omega
theorem pick_ex (c n : Int) (w : World) (hn : 1 ≤ n) (hn2 : n < 1000000000000) (h1 : -9223372036854775808 ≤ c) (h2 : c < 9223372036854775808) :
    Calls (Go.Proofs.Ytgfgoflhmikalaa.par.loneP HC) 19 #[.int .i64 c, .int .i64 n] w fun e w' => (∃ r : Nat, (r : Int) < n ∧ e = .returned (.int .i64 (r : Int))) ∧ w = w' := by
  refine (pick_any c n w hn hn2 h1 h2).mono ?_
  rintro e w' ⟨rfl, rfl⟩
  obtain ⟨h3, h4⟩ := pickI_in c (n := n) (by omega)
  obtain ⟨r, hr⟩ := Int.eq_ofNat_of_zero_le h3
  rw [hr] at h4 ⊢
  exact ⟨⟨r, h4, rfl⟩, rfl⟩
set_option maxRecDepth 100000 in
set_option maxHeartbeats 8000000 in
theorem turned_any (s : ByteArray) (which x : Int) (w : World) (hs : s.size < 1000000) (hw : -9223372036854775808 ≤ which ∧ which < 9223372036854775808) (hx : -9223372036854775808 ≤ x ∧ x < 9223372036854775808) :
    Calls (Go.Proofs.Ytgfgoflhmikalaa.par.loneP HC) 15 #[.string s, .int .i64 which, .int .i64 x] w fun e w' => (∃ r : ByteArray, r.size ≤ s.size + 1 ∧ e = .returned (.string r)) ∧ Below w.heap.size w w' := by
  by_cases h0 : s.size = 0
  · have hs0 : s = ⟨#[]⟩ := by
      apply ByteArray.ext
      exact Array.eq_empty_of_size_eq_zero h0
    subst hs0
    go_enter (Go.Proofs.Ytgfgoflhmikalaa.par.lfun15 (H := HC)), Try.ntmps15
    go_wp2_with fail
    go_ret
    exact ⟨⟨⟨#[]⟩, by simp, rfl⟩, Below.refl _ _⟩
  · have hne : s.toList.isEmpty = false := by
      rw [ByteArray.toList_eq, List.isEmpty_eq_false_iff]
      intro e
      apply h0
      rw [← bytesN_len, bytesN, e]
      rfl
    obtain ⟨w1, w2⟩ := hw
    obtain ⟨x1, x2⟩ := hx
    have hcv := fun w => run_bytes_of_string (P := (Go.Proofs.Ytgfgoflhmikalaa.par.loneP HC)) w 9 45 5 s ((Go.Proofs.Ytgfgoflhmikalaa.par.lon_underlying HC 9).trans Try.underlying9) ((Go.Proofs.Ytgfgoflhmikalaa.par.lon_underlying HC 45).trans Try.underlying45) ((Go.Proofs.Ytgfgoflhmikalaa.par.lon_underlying HC 5).trans Try.underlying5)
    have hcw : ∀ (n m c : Nat) (xs : List Int) (W' : World), RowI W' n xs → xs.length = m → (convert 45 9 (.slice (some ⟨n, 0, none⟩) m c)).run (Go.Proofs.Ytgfgoflhmikalaa.par.loneP HC) W' = .ok (.string (strOfNums xs)) W' := fun n m c xs W' h hm => h.conv m c hm
    go_enter (Go.Proofs.Ytgfgoflhmikalaa.par.lfun15 (H := HC)), Try.ntmps15
    go_wp2_with fail
    refine (pick_ex x s.size _ (by omega) (by omega) x1 x2).mono ?_; rintro e ww ⟨⟨k, hk, rfl⟩, rfl⟩
    go_wp2_with fail
    refine (pick_ex which 4 _ (by omega) (by omega) w1 w2).mono ?_; rintro e ww ⟨⟨q, hq, rfl⟩, rfl⟩
    have hq4 : q = 0 ∨ q = 1 ∨ q = 2 ∨ q = 3 := by omega
    have hk2 : (k : Int) ≤ (s.size : Int) := by omega
    have hk3 : (k : Int) + 1 ≤ (s.size : Int) := by omega
    rcases hq4 with rfl | rfl | rfl | rfl
    · go_wp2_with fail
      go_ret
      exact ⟨⟨_, by simp; omega, rfl⟩, Below.refl _ _⟩
    · have ad1 := add_run (HC := HC) (s.extract 0 k) (s.extract ((k : Int) + 1).toNat s.size) (by simp; omega)
      go_wp2_with fail
      go_region
      go_wp2_with fail
      go_ret
      exact ⟨⟨_, by simp; omega, rfl⟩, by (repeat (first | with_reducible exact Below.refl _ _ | with_reducible refine kp_alloc ?_ _ | with_reducible refine kp_drew ?_ | with_reducible refine kp_set ?_ (by first | omega | (simp; done) | (simp; omega)) _ | with_reducible refine kp_tr ?_ (by with_reducible assumption)))⟩
    · have ad1 : ∀ l : List Nat, l.length = 1 → ∀ w : World, (Op.stringOp .add (s.extract 0 k) (strB l)).run (Go.Proofs.Ytgfgoflhmikalaa.par.loneP HC) w = .ok (.string (s.extract 0 k ++ strB l)) w := fun l hl => add_run (HC := HC) _ _ (by rw [strB_size]; simp; omega)
      have ad2 : ∀ l : List Nat, l.length = 1 → ∀ w : World, (Op.stringOp .add (s.extract 0 k ++ strB l) (s.extract k s.size)).run (Go.Proofs.Ytgfgoflhmikalaa.par.loneP HC) w = .ok (.string (s.extract 0 k ++ strB l ++ s.extract k s.size)) w := fun l hl => add_run (HC := HC) _ _ (by rw [ByteArray.size_append, strB_size]; simp; omega)
      have hcv1 : ∀ (y : Nat) (n : Nat) (W' : World), W'.cell? ⟨n, 0, none⟩ = some (.int .u8 (y : Int)) → (convert 45 9 (.slice (some ⟨n, 0, none⟩) 1 1)).run (Go.Proofs.Ytgfgoflhmikalaa.par.loneP HC) W' = .ok (.string (strB [y])) W' := fun y n W' h => conv1 _ y _ h
      clear hcv hcw
      go_wp2_with fail
      have HAD := Lib.hid (And.intro ad1 ad2)
      have HCV := Lib.hid hcv1
      clear ad1 ad2 hcv1
      go_region_with
        (first
          | (go_at_call 19; refine (pick_ex _ _ _ (by omega) (by omega) (wrap_in _).1 (wrap_in _).2).mono ?_; rintro e ww ⟨⟨r, hr, rfl⟩, rfl⟩; have hwr : IntKind.u8.wrap (r : Int) = (r : Int) := wr_u8 _ (by omega); have hcv2 := HCV.out r; have a1 := HAD.out.1 [r] rfl; have a2 := HAD.out.2 [r] rfl))
      all_goals
        go_wp2_with fail
        go_ret
        exact ⟨⟨_, by rw [ByteArray.size_append, ByteArray.size_append, strB_size]; simp; omega, rfl⟩, by (repeat (first | with_reducible exact Below.refl _ _ | with_reducible refine kp_alloc ?_ _ | with_reducible refine kp_drew ?_ | with_reducible refine kp_set ?_ (by first | omega | (simp; done) | (simp; omega)) _ | with_reducible refine kp_tr ?_ (by with_reducible assumption)))⟩
    · clear hcw
      go_wp2_with fail
      have hR : RowI (w.alloc (.cells (bytesRow s (grownCap w s.size 0 5)) 5 ((bytesRow s (grownCap w s.size 0 5)).size, (bytesRow s (grownCap w s.size 0 5)).size + 1))).drew w.heap.size ((bytesN s).map fun b : Nat => (b : Int)) := (RowI.str w s _).drew
      have hb1 : Below w.heap.size w (w.alloc (.cells (bytesRow s (grownCap w s.size 0 5)) 5 ((bytesRow s (grownCap w s.size 0 5)).size, (bytesRow s (grownCap w s.size 0 5)).size + 1))).drew := by (repeat (first | with_reducible exact Below.refl _ _ | with_reducible refine kp_alloc ?_ _ | with_reducible refine kp_drew ?_ | with_reducible refine kp_set ?_ (by first | omega | (simp; done) | (simp; omega)) _ | with_reducible refine kp_tr ?_ (by with_reducible assumption)))
      generalize (w.alloc (.cells (bytesRow s (grownCap w s.size 0 5)) 5 ((bytesRow s (grownCap w s.size 0 5)).size, (bytesRow s (grownCap w s.size 0 5)).size + 1))).drew = W at *
      generalize grownCap w s.size 0 5 = c at *
      have hl : ((bytesN s).map fun b : Nat => (b : Int)).length = s.size := by rw [List.length_map, bytesN_len]
      generalize ((bytesN s).map fun b : Nat => (b : Int)) = xs at *
      have hcell := hR.at (i := k) (by omega)
      obtain ⟨hc1, hf1⟩ := hcell
      generalize xs.getD k 0 = y at *
      have HR := Lib.hid hR
      have HB := Lib.hid hb1
      clear hR hb1 hcv
      go_region_with
        (first
          | (go_at_call 19; refine (pick_ex _ _ _ (by omega) (by omega) (wrap_in _).1 (wrap_in _).2).mono ?_; rintro e ww ⟨⟨r, hr, rfl⟩, rfl⟩))
      all_goals
        have hR2 := (HR.out.set (k := k) (by omega) (bits .xor .u8 y (IntKind.u8.wrap (2 ^ r)))).drew
        have hc2 := hR2.conv (HC := HC) s.size c (by rw [List.length_set]; exact hl)
        have hsz : (strOfNums (xs.set k (bits .xor .u8 y (IntKind.u8.wrap (2 ^ r))))).size = s.size := by rw [strOfNums_size, List.length_set, hl]
        have hb1 := HB.out
        generalize strOfNums (xs.set k (bits .xor .u8 y (IntKind.u8.wrap (2 ^ r)))) = z at *
        clear hR2
        go_wp2_with fail
        go_ret
        exact ⟨⟨z, by omega, rfl⟩, by (repeat (first | with_reducible exact Below.refl _ _ | with_reducible refine kp_alloc ?_ _ | with_reducible refine kp_drew ?_ | with_reducible refine kp_set ?_ (by first | omega | (simp; done) | (simp; omega)) _ | with_reducible refine kp_tr ?_ (by with_reducible assumption)))⟩
end Go.Proofs.Ytgfgoflhmikalaa.fr

namespace Go.Proofs.Ytgfgoflhmikalaa.fr
open Go Go.RowKit Go.Proofs.Ytgfgoflhmikalaa.cm Go.Proofs.Ytgfgoflhmikalaa.cw Go.Proofs.Ytgfgoflhmikalaa.ga Go.Proofs.Ytgfgoflhmikalaa.gr Go.Proofs.Ytgfgoflhmikalaa.lw Go.Proofs.Ytgfgoflhmikalaa.fl
set_option linter.unusedVariables false
set_option linter.unusedSimpArgs false
variable {HC : Code}
attribute [local irreducible] Go.Proofs.Ytgfgoflhmikalaa.par.loneP
set_option maxRecDepth 100000 in
set_option maxHeartbeats 8000000 in
theorem forms_walk (hEq : HC = par.Hm) (s : ByteArray) (v0 : Value) (is : List Int) (v1 : Value) (bs : List ByteArray) (which x : Int) (w : World) (hs : s.size ≤ maxLen) (h0 : RIn 1 enI w v0 is) (hi : ∀ x ∈ is, -9223372036854775808 ≤ x ∧ x < 9223372036854775808) (h1 : RIn 1 enS w v1 bs) (hb : ∀ s ∈ bs, s.size ≤ maxLen)
    (hw : -9223372036854775808 ≤ which ∧ which < 9223372036854775808) (hx : -9223372036854775808 ≤ x ∧ x < 9223372036854775808) :
    Calls (Go.Proofs.Ytgfgoflhmikalaa.par.loneP HC) 5 #[.string s, v0, v1, .int .i64 which, .int .i64 x] w fun e w' => e = .returned (.bool true) ∧ Below w.heap.size w w' := by
  have HAW := Lib.hid (fun W => awake_any hEq W)
  have HL := Lib.hid (fun W h0 h1 => list_any (HC := HC) v0 v1 is bs W h0 h1 hi hb)
  have hF := listR_fine is bs
  have hlen : (listR is bs).length ≤ 8 := by rw [listR_len]; omega
  have hsz : ∀ f ∈ listR is bs, f.2.size ≤ 40 := fun f hf => (listR_ok f hf).2
  have H0 := Lib.hid h0
  have H1 := Lib.hid h1
  clear hi hb h0 h1
  generalize listR is bs = fs at *
  have hJs : (jB fs).size < 1000 := by have := jB_size_le hsz (by omega); have := Nat.mul_le_mul hlen (Nat.le_refl 55); omega
  have HJ := Lib.hid (fun v W h => join_any (HC := HC) v fs W h (by omega) hF.sz hF.i64)
  rw [jB_R hF] at HJ
  have HT := Lib.hid (fun W => turned_any (HC := HC) (jB fs) which x W (by omega) hw hx)
  have HAL := Lib.hid (fun u W h => all_any hEq u W h)
  have HJN := Lib.hid (fun v fs W h h2 h3 h4 => join_any (HC := HC) v fs W h h2 h3 h4)
  unfold maxLen at hs
  have hA60 : (s.extract 0 (min s.size 60)).size ≤ 60 := by simp; omega
  clear hEq hF hsz hlen hw hx
  generalize hm : min s.size 60 = m at *
  have hmm : min (s.size : Int) 60 = (m : Int) := by omega
  have hmi : (if (60 : Int) < (s.size : Int) then 60 else (s.size : Int)) = (m : Int) := by split <;> omega
  have hmle : (m : Int) ≤ (s.size : Int) := by omega
  clear hm
  go_enter (Go.Proofs.Ytgfgoflhmikalaa.par.lfun5 (H := HC)), Try.ntmps5
  go_wp2_with fail
  refine (HAW.out _).mono ?_; rintro e w1 ⟨rfl, k1⟩
  go_wp2_with fail
  refine (HL.out _ (H0.out.tr k1) (H1.out.tr k1)).mono ?_; rintro e w2 ⟨v2, rfl, ho2, k2⟩
  have hb2 : Below w.heap.size w w2 := kp_tr k1 k2
  have hv2 := ho2.sees (fun _ => rfl)
  clear k1 k2 ho2 H0 H1 HL HAW
  go_wp2_with fail
  refine (HJ.out _ _ hv2).mono ?_; rintro e w3 ⟨rfl, k3⟩
  replace hb2 := kp_tr hb2 k3
  clear k3 HJ hv2
  go_wp2_with fail
  go_region_held3 (fun w' => True) (trivial)
    (first
      | (go_at_call 15; refine (HT.out _).mono ?_; rintro e w4 ⟨⟨r, hr, rfl⟩, k4⟩))
  all_goals
    have hus : RIn 1 enS (w4.alloc (.cells #[.string (s.extract 0 m), .string r] 9)) (.slice (some ⟨w4.heap.size, 0, none⟩) 2 2) [s.extract 0 m, r] := two_g (α := ByteArray) (k := 1) (en := enS) (fun _ => rfl) w4 (s.extract 0 m) r _ rfl _ rfl
    have hb4 : Below w.heap.size w (w4.alloc (.cells #[.string (s.extract 0 m), .string r] 9)) := by (repeat (first | with_reducible exact Below.refl _ _ | with_reducible refine kp_alloc ?_ _ | with_reducible refine kp_drew ?_ | with_reducible refine kp_set ?_ (by first | omega | (simp; done) | (simp; omega)) _ | with_reducible refine kp_tr ?_ (by with_reducible assumption)))
    have hsz : ∀ u ∈ [s.extract 0 m, r], u.size ≤ 2000 := fun u hu => by simp at hu; rcases hu with rfl | rfl <;> omega
    have hln : [s.extract 0 m, r].length = 2 := rfl
    generalize [s.extract 0 m, r] = us at *
    generalize w4.alloc (.cells #[.string (s.extract 0 m), .string r] 9) = W4 at *
    have HU := Lib.hid hus
    have HB4 := Lib.hid hb4
    have HSZ := Lib.hid hsz
    clear hus hb4 hsz k4 hb2 hA60 hmm hmi hmle
    generalize w4.heap.size = n4 at *
    go_wp2_with fail
    go_loopw [41] (fun i wr => ∃ k : Nat, k ≤ 2 ∧ i = .int .i64 k ∧ Hid (Below W4.heap.size W4 wr)) (fun i _ => 2 - (intOf i).toNat)
    case atStart => exact ⟨0, by omega, rfl, Lib.hid (Below.refl _ _)⟩
    case round =>
      obtain ⟨k, hk, rfl, hb⟩ := hrel
      by_cases hlk : k < 2
      · have hx : us[k]? = some (us.getD k ⟨#[]⟩) := by simp [List.getD, hln, hlk]
        have x0 := cell_tr hb.out (HU.out.at hx 0 _ rfl)
        rw [Nat.add_zero, Nat.mul_one, Nat.zero_add] at x0
        have hul := HSZ.out _ (List.mem_of_getElem? hx)
        generalize us.getD k ⟨#[]⟩ = u at *
        have HA := Lib.hid (fun W => HAL.out u W (by omega))
        have hcase := all_forms u (by omega)
        clear hx
        rcases hcase with ⟨e, he, hA⟩ | ⟨gs, hA, hG, hgl, hgj⟩
        · rw [hA] at HA
          clear hA
          go_wp2_with fail
          refine (HA.out _).mono ?_; rintro e' w5 ⟨v5, rfl, hv5, k5⟩
          have hb5 : Hid (Below W4.heap.size W4 w5) := Lib.hid (kp_tr hb.out k5)
          obtain ⟨ad, b, off, cap, rfl, -, -, -, -, -, -⟩ := hv5.form
          clear hv5 k5 hb HA
          go_wp2_with fail
          exact ⟨⟨k + 1, by omega, by go_num, hb5⟩, by simp [intOf]; omega⟩
        · rw [hA] at HA
          clear hA
          have HJ2 := Lib.hid (fun v W h => HJN.out v gs W h hgl hG.sz hG.i64)
          rw [jB_R hG, hgj] at HJ2
          clear hG hgl hgj
          go_wp2_with fail
          refine (HA.out _).mono ?_; rintro e' w5 ⟨v5, rfl, hv5, k5⟩
          have hb5 : Hid (Below W4.heap.size W4 w5) := Lib.hid (kp_tr hb.out k5)
          clear k5 hb HA
          go_wp2_with fail
          refine (HJ2.out _ _ hv5).mono ?_; rintro e' w6 ⟨rfl, k6⟩
          have hb6 : Hid (Below W4.heap.size W4 w6) := Lib.hid (kp_tr hb5.out k6)
          clear k6 hb5 HJ2 hv5
          go_wp2_with fail
          exact ⟨⟨k + 1, by omega, by go_num, hb6⟩, by simp [intOf]; omega⟩
      · obtain rfl : k = 2 := by omega
        have hb5 : Hid (Below w.heap.size w wr) := Lib.hid (kp_tr HB4.out hb.out)
        go_wp2_with fail
        go_ret
        exact ⟨rfl, hb5.out⟩
end Go.Proofs.Ytgfgoflhmikalaa.fr

namespace Go.Proofs.Ytgfgoflhmikalaa.framesFormsLaw
open Go.Proofs.Ytgfgoflhmikalaa Go.Proofs.Ytgfgoflhmikalaa.par
open Go Go.ChangeShapes Go.WideShapes Go.ChangeAt Go.RowKit Go.Joins Go.Conc Go.ConcM
open Go.ChangeMaps (open_string shut_string)
set_option linter.unusedVariables false
set_option linter.unusedSimpArgs false
attribute [local irreducible] Go.Proofs.Ytgfgoflhmikalaa.par.loneP
theorem own : ownKnob Try.prog.godebug = none := by kernel_rfl
theorem laidOut : laidOutB Try.prog = true := by kernel_rfl
theorem nospec : ¬ Sp 5 := by unfold Sp; decide
theorem bothLaw : Both (loneF Hm) Try.prog.funcs 5 := ⟨_, _, _, _, (lone_funcs (H := Hm)) ▸ lfun5 (H := Hm), Try.func5, rfl, rfl⟩

set_option maxRecDepth 100000 in
theorem lifted (os : Os) (started : os.Started) (H : Type) (enc : TypeId × Value → H) (SF : Stop.Interp) :
    ReturnsInLeavingWide Rows.framesFormsRow.assume Try.checked os 5 .any (Rows.framesFormsSpec.pre6 enc Try.prog Try.f5 Rows.framesFormsRow.domain false) ((OpenSpec.ofChange Rows.framesFormsSpec).postWith enc Try.prog Try.f5 SF (outsideKept [.timePasses]) false true false) := by
  refine returnsInLeavingWide_of_change_time (C := Try.checked) own started Try.func5
    (ChangeSpec.witness6c (enc := enc) (C := Try.checked) ⟨#[], #[.string ByteArray.empty, .slice none 0 0, .slice none 0 0, .int .i64 0, .int .i64 0], []⟩ 8 (by kernel_rfl) (by kernel_rfl) (by kernel_rfl) (by kernel_rfl)) ?_
  intro W base args ds gs before hval0 hW _ _ _
  have hval : ∀ (j : Nat) t v, Try.f5.params[j]? = some t → args[j]? = some v → Value.okWide Try.prog W .any base t v := hval0
  have hW' := hW
  obtain ⟨p, q, hA0, hV, rfl, hfz, hnd⟩ := hW
  have hA : DataW.TrodAll enc Try.prog W 0 (fun _ => true) true Try.f5.params.toList args.toList ds p := hA0
  rw [Try.params5] at hA hval
  obtain ⟨v0, vs0, d0, ds0, p0, q0', hargs, rfl, rfl, h0, r0⟩ := trodAll_cons hA
  obtain ⟨v1, vs1, d1, ds1, p1, q1', rfl, rfl, rfl, h1, r1⟩ := trodAll_cons r0
  obtain ⟨v2, vs2, d2, ds2, p2, q2', rfl, rfl, rfl, h2, r2⟩ := trodAll_cons r1
  obtain ⟨v3, vs3, d3, ds3, p3, q3', rfl, rfl, rfl, h3, r3⟩ := trodAll_cons r2
  obtain ⟨v4, vs4, d4, ds4, p4, q4', rfl, rfl, rfl, h4, r4⟩ := trodAll_cons r3
  obtain ⟨rfl, rfl, rfl⟩ := trodAll_nil r4
  obtain rfl : args = #[v0, v1, v2, v3, v4] := by cases args; simp_all
  obtain ⟨rfl, rfl⟩ := trodVars_none hV
  have k0 := h0
  have lt0 : ∀ x ∈ p0, x.block < W.heap.size := by obtain ⟨m, hm⟩ := k0; exact DataW.trod_lt m _ _ _ hm
  have k1 := h1
  have lt1 : ∀ x ∈ p1, x.block < W.heap.size := by obtain ⟨m, hm⟩ := k1; exact DataW.trod_lt m _ _ _ hm
  have k2 := h2
  have lt2 : ∀ x ∈ p2, x.block < W.heap.size := by obtain ⟨m, hm⟩ := k2; exact DataW.trod_lt m _ _ _ hm
  have k3 := h3
  have lt3 : ∀ x ∈ p3, x.block < W.heap.size := by obtain ⟨m, hm⟩ := k3; exact DataW.trod_lt m _ _ _ hm
  have k4 := h4
  have lt4 : ∀ x ∈ p4, x.block < W.heap.size := by obtain ⟨m, hm⟩ := k4; exact DataW.trod_lt m _ _ _ hm
  have q0 := lw.vr_str Try.underlying9 (hval 0 9 v0 rfl rfl)
  have q1 := lw.vr_slice Try.underlying23 (hval 1 23 v1 rfl rfl)
  have q2 := lw.vr_slice Try.underlying24 (hval 2 24 v2 rfl rfl)
  have q3 := lw.vr_int Try.underlying3 (hval 3 3 v3 rfl rfl)
  have q4 := lw.vr_int Try.underlying3 (hval 4 3 v4 rfl rfl)
  have hvr := lw.vrs_of (W := W) (args := #[v0, v1, v2, v3, v4]) (fun v hv => by simp at hv; rcases hv with rfl | rfl | rfl | rfl | rfl <;> assumption)
  clear q0 q1 q2 q3 q4
  obtain ⟨a0, rfl, rfl, rfl, w0⟩ := open_string Try.underlying9 (hval 0 9 v0 rfl rfl) h0
  obtain ⟨a1, w1, x1⟩ := lw.ints_arg Try.underlying23 Try.underlying3 (by kernel_rfl) (hval 1 23 v1 rfl rfl) h1
  obtain ⟨a2, w2, x2⟩ := lw.strs_arg Try.underlying24 Try.underlying9 (by kernel_rfl) (hval 2 24 v2 rfl rfl) h2
  obtain ⟨a3, rfl, rfl, rfl, w3⟩ := open_int Try.underlying3 (hval 3 3 v3 rfl rfl) h3
  obtain ⟨a4, rfl, rfl, rfl, w4⟩ := open_int Try.underlying3 (hval 4 3 v4 rfl rfl) h4
  clear hA0 hval0
  obtain ⟨M, last, o, w', t', r1, r2, r3, v, e, ⟨rfl, bel⟩, g1, g2, g3, g4⟩ := main_law Try.func5 Try.results5 (lfun5 (H := Hm)) Try.results5 (by kernel_rfl) nospec bothLaw (Nat.zero_le _) hvr hold_ok hold_one (fun τ => by
    have h := fr.forms_walk (HC := Hm) rfl a0 v1 a1 v2 a2 a3 a4 (tp (cleanW W) τ) w0 (lw.clean_rin w1 lw.enI_clv τ) x1 (lw.clean_rin w2 lw.enS_clv τ) x2 (wfb_i64 w3) (wfb_i64 w4)
    have e : (tp (cleanW W) τ).heap.size = W.heap.size := clean_size W
    rw [e] at h
    exact h)
  refine ⟨M, last, o, w', t', r1, r2, r3, _, e, ⟨?_, by rw [bel.os]; exact OsLater.refl _⟩, g1, g2, g3, g4⟩
  have bel2 : Below W.heap.size W { w' with os := W.os } := ⟨rfl, bel.tape, bel.output, bel.size, bel.block⟩
  exact ⟨_, _, _, [], _, [], hW', trodAll_mk1 (shut_bool Try.underlying4 _), (trodAll_cons_mk (Below.trod laidOut (by kernel_rfl) (of_decide_eq_true (by kernel_rfl)) k0 bel2 lt0) (trodAll_cons_mk (Below.trod laidOut (by kernel_rfl) (of_decide_eq_true (by kernel_rfl)) k1 bel2 lt1) (trodAll_cons_mk (Below.trod laidOut (by kernel_rfl) (of_decide_eq_true (by kernel_rfl)) k2 bel2 lt2) (trodAll_cons_mk (Below.trod laidOut (by kernel_rfl) (of_decide_eq_true (by kernel_rfl)) k3 bel2 lt3) (trodAll_cons_mk (Below.trod laidOut (by kernel_rfl) (of_decide_eq_true (by kernel_rfl)) k4 bel2 lt4) trodAll_mk0))))), rfl, bel2.frame _, fun h => by cases h⟩

theorem over : Rows.framesFormsRow.holds Try.pinned (OpenSpec.ofChange Rows.framesFormsSpec) :=
  OpenClaim.holds_of_wide_leaving_time 5 Try.f5 rfl rfl rfl rfl rfl rfl rfl ⟨rfl, rfl, rfl, rfl, rfl⟩ rfl rfl rfl rfl rfl (by kernel_rfl) Try.func5 (by kernel_rfl)
    (of_decide_eq_true (by kernel_rfl)) (by unfold Func.isWrapper; first | (rw [if_pos (by decide +kernel)]; kernel_rfl) | (rw [if_neg (by decide +kernel)]; exact ⟨rfl, rfl⟩))
    (fun os started H enc _ SF => lifted os started H enc SF)

theorem proved : Rows.FramesFormsSaid := over
end Go.Proofs.Ytgfgoflhmikalaa.framesFormsLaw
