/- The statement Rows.FramesTellsSaid (cromlech/cromlechlaw04.FramesTells), out of its walk. Conditions: none but the statement's own. -/
import Derived.Test.YtgfgoflhmikalaaM35
import Derived.Deep.RegionWith
import Derived.Deep.RegionHeld3
import Derived.Deep.DeepCutAuto
import Derived.Deep.CutRange
import Derived.StillTailTactics
import Derived.Test.YtgfgoflhmikalaaRows
import Derived.WalkKit
import Derived.ProofKit
import Derived.OpenShut
import Derived.ShutString
import Derived.ChangeOld
import Derived.Below
import Derived.Lib.SmallJoins
import Derived.Conc.HoldsTime
namespace Go.Proofs.Ytgfgoflhmikalaa.fr
open Go Go.RowKit Go.Proofs.Ytgfgoflhmikalaa.cm Go.Proofs.Ytgfgoflhmikalaa.cw Go.Proofs.Ytgfgoflhmikalaa.ga Go.Proofs.Ytgfgoflhmikalaa.gr Go.Proofs.Ytgfgoflhmikalaa.lw Go.Proofs.Ytgfgoflhmikalaa.fl
set_option linter.unusedVariables false
set_option linter.unusedSimpArgs false
variable {HC : Code}
attribute [local irreducible] Go.Proofs.Ytgfgoflhmikalaa.par.loneP
/-- A row of bytes, of one's own, from a block's head. -/
def RowI (w : World) (n : Nat) (xs : List Int) : Prop := ∀ i, i < xs.length → w.cell? ⟨n, i, none⟩ = some (.int .u8 (xs.getD i 0)) ∧ w.frozen? ⟨n, i, none⟩ = false
theorem RowI.at {w : World} {n : Nat} {xs : List Int} (h : RowI w n xs) {i : Nat} (hi : i < xs.length) : w.cell? ⟨n, i, none⟩ = some (.int .u8 (xs.getD i 0)) ∧ w.frozen? ⟨n, i, none⟩ = false := h i hi
theorem RowI.tr {W w : World} {n : Nat} {xs : List Int} (h : RowI W n xs) (hb : Below W.heap.size W w) : RowI w n xs := fun i hi => by
  obtain ⟨h1, h2⟩ := h i hi
  exact ⟨cell_tr hb h1, (hb.frozen (p := ⟨n, i, none⟩) (World.block_lt_of_cell? _ _ h1)).trans h2⟩
theorem RowI.drew {w : World} {n : Nat} {xs : List Int} (h : RowI w n xs) : RowI w.drew n xs := h
theorem RowI.set {w : World} {n k : Nat} {xs : List Int} (h : RowI w n xs) (hk : k < xs.length) (v : Int) : RowI (w.setCell ⟨n, k, none⟩ (.int .u8 v)) n (xs.set k v) := fun i hi => by
  rw [List.length_set] at hi
  obtain ⟨h1, h2⟩ := h i hi
  by_cases e : i = k
  · subst e
    exact ⟨by rw [World.cell?_setCell_same _ _ _ h1]; simp [List.getD, hi], by simpa using h2⟩
  · refine ⟨?_, by simpa using h2⟩
    rw [World.cell?_setCell_other _ _ _ _ (fun q => e (by have q2 := congrArg Addr.off q; first | exact q2 | exact q2.symm)), h1]
    simp [List.getD, Ne.symm e]
theorem RowI.str (w : World) (s : ByteArray) (c : Nat) : RowI (w.alloc (.cells (bytesRow s c) 5 ((bytesRow s c).size, (bytesRow s c).size + 1))) w.heap.size ((bytesN s).map fun b : Nat => (b : Int)) := fun i hi => by
  rw [List.length_map, bytesN_len] at hi
  have hsz : i < (bytesRow s c).size := by
    have := bytesRow_at s c i hi
    rcases Nat.lt_or_ge i (bytesRow s c).size with h | h
    · exact h
    · rw [Array.getElem?_eq_none h] at this; cases this
  rw [World.cell?_alloc_mark, bytesRow_at s c i hi, World.frozen?_alloc_mark]
  refine ⟨by simp [bytesN, List.getD, hi], ?_⟩
  rw [decide_eq_false (by omega)]
  rfl
theorem RowI.conv {w : World} {n : Nat} {xs : List Int} (h : RowI w n xs) (m c : Nat) (hm : xs.length = m) :
    (convert 45 9 (.slice (some ⟨n, 0, none⟩) m c)).run (Go.Proofs.Ytgfgoflhmikalaa.par.loneP HC) w = .ok (.string (strOfNums xs)) w := by
  refine run_convert_bytes_arg (P := (Go.Proofs.Ytgfgoflhmikalaa.par.loneP HC)) w 45 5 ((Go.Proofs.Ytgfgoflhmikalaa.par.lon_underlying HC 45).trans Try.underlying45) ((Go.Proofs.Ytgfgoflhmikalaa.par.lon_underlying HC 5).trans Try.underlying5) n 0 m c xs hm (fun i hi => ?_) 9 ((Go.Proofs.Ytgfgoflhmikalaa.par.lon_underlying HC 9).trans Try.underlying9)
  rw [Nat.zero_add, (h.at (by omega)).1]
attribute [irreducible] RowI
theorem wrap_in (n : Int) : -9223372036854775808 ≤ IntKind.i64.wrap n ∧ IntKind.i64.wrap n < 9223372036854775808 := by
  simp only [IntKind.wrap, IntKind.signed, IntKind.bits]; simp; omega
theorem pick_ex (c n : Int) (w : World) (hn : 1 ≤ n) (hn2 : n < 1000000000000) (h1 : -9223372036854775808 ≤ c) (h2 : c < 9223372036854775808) :
    Calls (Go.Proofs.Ytgfgoflhmikalaa.par.loneP HC) 19 #[.int .i64 c, .int .i64 n] w fun e w' => (∃ r : Nat, (r : Int) < n ∧ e = .returned (.int .i64 (r : Int))) ∧ w = w' := by
  refine (pick_any c n w hn hn2 h1 h2).mono ?_
  rintro e w' ⟨rfl, rfl⟩
  obtain ⟨h3, h4⟩ := pickI_in c (n := n) (by omega)
  obtain ⟨r, hr⟩ := Int.eq_ofNat_of_zero_le h3
  rw [hr] at h4 ⊢
  exact ⟨⟨r, h4, rfl⟩, rfl⟩
set_option maxRecDepth 100000 in
set_option maxHeartbeats 8000000 in
theorem turned_any (s : ByteArray) (which x : Int) (w : World) (hs : s.size < 1000000) (hw : -9223372036854775808 ≤ which ∧ which < 9223372036854775808) (hx : -9223372036854775808 ≤ x ∧ x < 9223372036854775808) :
    Calls (Go.Proofs.Ytgfgoflhmikalaa.par.loneP HC) 15 #[.string s, .int .i64 which, .int .i64 x] w fun e w' => (∃ r : ByteArray, r.size ≤ s.size + 1 ∧ e = .returned (.string r)) ∧ Below w.heap.size w w' := by
  by_cases h0 : s.size = 0
  · have hs0 : s = ⟨#[]⟩ := by
      apply ByteArray.ext
      exact Array.eq_empty_of_size_eq_zero h0
    subst hs0
    go_enter (Go.Proofs.Ytgfgoflhmikalaa.par.lfun15 (H := HC)), Try.ntmps15
    go_wp2_with fail
    go_ret
    exact ⟨⟨⟨#[]⟩, by simp, rfl⟩, Below.refl _ _⟩
  · have hne : s.toList.isEmpty = false := by
      rw [ByteArray.toList_eq, List.isEmpty_eq_false_iff]
      intro e
      apply h0
      rw [← bytesN_len, bytesN, e]
      rfl
    obtain ⟨w1, w2⟩ := hw
    obtain ⟨x1, x2⟩ := hx
    have hcv := fun w => run_bytes_of_string (P := (Go.Proofs.Ytgfgoflhmikalaa.par.loneP HC)) w 9 45 5 s ((Go.Proofs.Ytgfgoflhmikalaa.par.lon_underlying HC 9).trans Try.underlying9) ((Go.Proofs.Ytgfgoflhmikalaa.par.lon_underlying HC 45).trans Try.underlying45) ((Go.Proofs.Ytgfgoflhmikalaa.par.lon_underlying HC 5).trans Try.underlying5)
    have hcw : ∀ (n m c : Nat) (xs : List Int) (W' : World), RowI W' n xs → xs.length = m → (convert 45 9 (.slice (some ⟨n, 0, none⟩) m c)).run (Go.Proofs.Ytgfgoflhmikalaa.par.loneP HC) W' = .ok (.string (strOfNums xs)) W' := fun n m c xs W' h hm => h.conv m c hm
    go_enter (Go.Proofs.Ytgfgoflhmikalaa.par.lfun15 (H := HC)), Try.ntmps15
    go_wp2_with fail
    refine (pick_ex x s.size _ (by omega) (by omega) x1 x2).mono ?_; rintro e ww ⟨⟨k, hk, rfl⟩, rfl⟩
    go_wp2_with fail
    refine (pick_ex which 4 _ (by omega) (by omega) w1 w2).mono ?_; rintro e ww ⟨⟨q, hq, rfl⟩, rfl⟩
    have hq4 : q = 0 ∨ q = 1 ∨ q = 2 ∨ q = 3 := by omega
    have hk2 : (k : Int) ≤ (s.size : Int) := by omega
    have hk3 : (k : Int) + 1 ≤ (s.size : Int) := by omega
    rcases hq4 with rfl | rfl | rfl | rfl
    · go_wp2_with fail
      go_ret
      exact ⟨⟨_, by simp; omega, rfl⟩, Below.refl _ _⟩
    · have ad1 := add_run (HC := HC) (s.extract 0 k) (s.extract ((k : Int) + 1).toNat s.size) (by simp; omega)
      go_wp2_with fail
      go_region
      go_wp2_with fail
      go_ret
      exact ⟨⟨_, by simp; omega, rfl⟩, by (repeat (first | with_reducible exact Below.refl _ _ | with_reducible refine kp_alloc ?_ _ | with_reducible refine kp_drew ?_ | with_reducible refine kp_set ?_ (by first | omega | (simp; done) | (simp; omega)) _ | with_reducible refine kp_tr ?_ (by with_reducible assumption)))⟩
    · have ad1 : ∀ l : List Nat, l.length = 1 → ∀ w : World, (Op.stringOp .add (s.extract 0 k) (strB l)).run (Go.Proofs.Ytgfgoflhmikalaa.par.loneP HC) w = .ok (.string (s.extract 0 k ++ strB l)) w := fun l hl => add_run (HC := HC) _ _ (by rw [strB_size]; simp; omega)
      have ad2 : ∀ l : List Nat, l.length = 1 → ∀ w : World, (Op.stringOp .add (s.extract 0 k ++ strB l) (s.extract k s.size)).run (Go.Proofs.Ytgfgoflhmikalaa.par.loneP HC) w = .ok (.string (s.extract 0 k ++ strB l ++ s.extract k s.size)) w := fun l hl => add_run (HC := HC) _ _ (by rw [ByteArray.size_append, strB_size]; simp; omega)
      have hcv1 : ∀ (y : Nat) (n : Nat) (W' : World), W'.cell? ⟨n, 0, none⟩ = some (.int .u8 (y : Int)) → (convert 45 9 (.slice (some ⟨n, 0, none⟩) 1 1)).run (Go.Proofs.Ytgfgoflhmikalaa.par.loneP HC) W' = .ok (.string (strB [y])) W' := fun y n W' h => conv1 _ y _ h
      clear hcv hcw
      go_wp2_with fail
      have HAD := Lib.hid (And.intro ad1 ad2)
      have HCV := Lib.hid hcv1
      clear ad1 ad2 hcv1
      go_region_with
        (first
          | (go_at_call 19; refine (pick_ex _ _ _ (by omega) (by omega) (wrap_in _).1 (wrap_in _).2).mono ?_; rintro e ww ⟨⟨r, hr, rfl⟩, rfl⟩; have hwr : IntKind.u8.wrap (r : Int) = (r : Int) := wr_u8 _ (by omega); have hcv2 := HCV.out r; have a1 := HAD.out.1 [r] rfl; have a2 := HAD.out.2 [r] rfl))
      all_goals
        go_wp2_with fail
        go_ret
        exact ⟨⟨_, by rw [ByteArray.size_append, ByteArray.size_append, strB_size]; simp; omega, rfl⟩, by (repeat (first | with_reducible exact Below.refl _ _ | with_reducible refine kp_alloc ?_ _ | with_reducible refine kp_drew ?_ | with_reducible refine kp_set ?_ (by first | omega | (simp; done) | (simp; omega)) _ | with_reducible refine kp_tr ?_ (by with_reducible assumption)))⟩
    · clear hcw
      go_wp2_with fail
      have hR : RowI (w.alloc (.cells (bytesRow s (grownCap w s.size 0 5)) 5 ((bytesRow s (grownCap w s.size 0 5)).size, (bytesRow s (grownCap w s.size 0 5)).size + 1))).drew w.heap.size ((bytesN s).map fun b : Nat => (b : Int)) := (RowI.str w s _).drew
      have hb1 : Below w.heap.size w (w.alloc (.cells (bytesRow s (grownCap w s.size 0 5)) 5 ((bytesRow s (grownCap w s.size 0 5)).size, (bytesRow s (grownCap w s.size 0 5)).size + 1))).drew := by (repeat (first | with_reducible exact Below.refl _ _ | with_reducible refine kp_alloc ?_ _ | with_reducible refine kp_drew ?_ | with_reducible refine kp_set ?_ (by first | omega | (simp; done) | (simp; omega)) _ | with_reducible refine kp_tr ?_ (by with_reducible assumption)))
      generalize (w.alloc (.cells (bytesRow s (grownCap w s.size 0 5)) 5 ((bytesRow s (grownCap w s.size 0 5)).size, (bytesRow s (grownCap w s.size 0 5)).size + 1))).drew = W at *
      generalize grownCap w s.size 0 5 = c at *
      have hl : ((bytesN s).map fun b : Nat => (b : Int)).length = s.size := by rw [List.length_map, bytesN_len]
      generalize ((bytesN s).map fun b : Nat => (b : Int)) = xs at *
      have hcell := hR.at (i := k) (by omega)
      obtain ⟨hc1, hf1⟩ := hcell
      generalize xs.getD k 0 = y at *
      have HR := Lib.hid hR
      have HB := Lib.hid hb1
      clear hR hb1 hcv
      go_region_with
        (first
          | (go_at_call 19; refine (pick_ex _ _ _ (by omega) (by omega) (wrap_in _).1 (wrap_in _).2).mono ?_; rintro e ww ⟨⟨r, hr, rfl⟩, rfl⟩))
      all_goals
        have hR2 := (HR.out.set (k := k) (by omega) (bits .xor .u8 y (IntKind.u8.wrap (2 ^ r)))).drew
        have hc2 := hR2.conv (HC := HC) s.size c (by rw [List.length_set]; exact hl)
        have hsz : (strOfNums (xs.set k (bits .xor .u8 y (IntKind.u8.wrap (2 ^ r))))).size = s.size := by rw [strOfNums_size, List.length_set, hl]
        have hb1 := HB.out
        generalize strOfNums (xs.set k (bits .xor .u8 y (IntKind.u8.wrap (2 ^ r)))) = z at *
        clear hR2
        go_wp2_with fail
        go_ret
        exact ⟨⟨z, by omega, rfl⟩, by (repeat (first | with_reducible exact Below.refl _ _ | with_reducible refine kp_alloc ?_ _ | with_reducible refine kp_drew ?_ | with_reducible refine kp_set ?_ (by first | omega | (simp; done) | (simp; omega)) _ | with_reducible refine kp_tr ?_ (by with_reducible assumption)))⟩
end Go.Proofs.Ytgfgoflhmikalaa.fr

namespace Go.Proofs.Ytgfgoflhmikalaa.fr
open Go Go.RowKit Go.Proofs.Ytgfgoflhmikalaa.cm Go.Proofs.Ytgfgoflhmikalaa.cw Go.Proofs.Ytgfgoflhmikalaa.ga Go.Proofs.Ytgfgoflhmikalaa.gr Go.Proofs.Ytgfgoflhmikalaa.lw Go.Proofs.Ytgfgoflhmikalaa.fl
set_option linter.unusedVariables false
set_option linter.unusedSimpArgs false
variable {HC : Code}
attribute [local irreducible] Go.Proofs.Ytgfgoflhmikalaa.par.loneP
theorem strB_app (a b : List Nat) : strB (a ++ b) = strB a ++ strB b := by
  apply ByteArray.ext
  apply Array.toList_inj.1
  simp [strB, strOfNums]
theorem strB_cons (a : Nat) (b : List Nat) : strB (a :: b) = strB [a] ++ strB b := strB_app [a] b
set_option maxRecDepth 100000 in
set_option maxHeartbeats 4000000 in
theorem rput_any : ∀ (v : Nat) (w : World), v < 18446744073709551616 →
    Calls (Go.Proofs.Ytgfgoflhmikalaa.par.loneP HC) 28 #[.int .u64 v] w fun e w' => e = .returned (.string (strB (putN v))) ∧ Below w.heap.size w w' := by
  intro v
  induction v using Nat.strongRecOn with
  | ind v ih =>
    intro w hv
    by_cases h : v < 128
    · have hw8 : IntKind.u8.wrap (v : Int) = (v : Int) := wr_u8 _ (by omega)
      have hcv : ∀ (n : Nat) (W' : World), W'.cell? ⟨n, 0, none⟩ = some (.int .u8 (v : Int)) → (convert 45 9 (.slice (some ⟨n, 0, none⟩) 1 1)).run (Go.Proofs.Ytgfgoflhmikalaa.par.loneP HC) W' = .ok (.string (strB [v])) W' := fun n W' h => conv1 _ v _ h
      have HE := Lib.hid (putN_lo h)
      have h128 : (v : Int) < 128 := by omega
      clear ih
      go_enter (Go.Proofs.Ytgfgoflhmikalaa.par.lfun28 (H := HC)), Try.ntmps28
      go_wp2_with fail
      go_ret
      exact ⟨by rw [HE.out]; rfl, by (repeat (first | with_reducible exact Below.refl _ _ | with_reducible refine kp_alloc ?_ _ | with_reducible refine kp_drew ?_ | with_reducible refine kp_set ?_ (by first | omega | (simp; done) | (simp; omega)) _ | with_reducible refine kp_tr ?_ (by with_reducible assumption)))⟩
    · have HE : Hid (strB (putN v) = strB [v % 128 + 128] ++ strB (putN (v / 128))) := Lib.hid (by rw [putN_hi h, strB_cons])
      obtain ⟨y, hy⟩ : ∃ y, y = v % 128 + 128 := ⟨_, rfl⟩
      rw [← hy] at HE
      have hcv : ∀ (n : Nat) (W' : World), W'.cell? ⟨n, 0, none⟩ = some (.int .u8 (y : Int)) → (convert 45 9 (.slice (some ⟨n, 0, none⟩) 1 1)).run (Go.Proofs.Ytgfgoflhmikalaa.par.loneP HC) W' = .ok (.string (strB [y])) W' := fun n W' h => conv1 _ y _ h
      have IH := Lib.hid (fun W => ih (v / 128) (by omega) W (by omega))
      have hi : ((v / 128 : Nat) : Int) = (v : Int) / 128 := by omega
      rw [hi] at IH
      have hB : (strB (putN (v / 128))).size ≤ 10 := by rw [strB_size]; exact putN_10 (by omega)
      have hA : (strB [y]).size = 1 := strB_size _
      generalize strB (putN (v / 128)) = B at *
      generalize strB [y] = A at *
      have ad1 := add_run (HC := HC) A B (by omega)
      have hyi : (v : Int) % 128 + 128 = (y : Int) := by omega
      have hwy : IntKind.u8.wrap (y : Int) = (y : Int) := wr_u8 _ (by omega)
      have htm : (v : Int).tmod 128 = (v : Int) % 128 := Int.tmod_eq_emod_of_nonneg (by omega)
      have hwy2 : IntKind.u64.wrap ((v : Int).tmod 128 + 128) = (y : Int) := by rw [htm, wr_u64 _ (by omega)]; omega
      have hwd : IntKind.u64.wrap ((v : Int) / 128) = (v : Int) / 128 := wr_u64 _ (by omega)
      clear htm
      have h128 : ¬ (v : Int) < 128 := by omega
      clear ih hy hyi hi
      go_enter (Go.Proofs.Ytgfgoflhmikalaa.par.lfun28 (H := HC)), Try.ntmps28
      go_wp2_with fail
      go_region_with
        (first
          | (go_at_call 28; refine (IH.out _).mono ?_; rintro e w1 ⟨rfl, k1⟩; obtain ⟨k1c, k1f⟩ := bcell k1; have k1z := k1.size))
      all_goals
        go_wp2_with fail
        go_ret
        exact ⟨by rw [HE.out]; rfl, by (repeat (first | with_reducible exact Below.refl _ _ | with_reducible refine kp_alloc ?_ _ | with_reducible refine kp_drew ?_ | with_reducible refine kp_set ?_ (by first | omega | (simp; done) | (simp; omega)) _ | with_reducible refine kp_tr ?_ (by with_reducible assumption)))⟩
theorem rbytes_any (x n : Nat) (w : World) (hn : n ≤ 8) (hx : x < 18446744073709551616) (h0 : 0 < n) :
    Calls (Go.Proofs.Ytgfgoflhmikalaa.par.loneP HC) 40 #[.int .u64 x, .int .i64 n] w fun e w' => e = .returned (.string (strB (leB n x))) ∧ Below w.heap.size w w' := by
  go_enter (Go.Proofs.Ytgfgoflhmikalaa.par.lfun40 (H := HC)), Try.ntmps40
  go_wp2_with fail
  go_loopw [5, 6] (fun b i wr => ∃ k : Nat, k ≤ n ∧ i = .int .i64 k ∧ Hid (OwnB wr w.heap.size b (leB k x)) ∧ Hid (Below w.heap.size w wr)) (fun _ i _ => n - (intOf i).toNat)
  case atStart => exact ⟨0, Nat.zero_le _, rfl, Lib.hid (OwnB.nil _ _), Lib.hid (Below.refl _ _)⟩
  case round =>
    obtain ⟨k, hk, rfl, ho, hb⟩ := hrel
    by_cases hlk : k < n
    · have HQ := Lib.hid (leB_succ k x)
      have hq : x / 256 ^ k < 18446744073709551616 := Nat.lt_of_le_of_lt (Nat.div_le_self _ _) hx
      have hdiv : (x : Int) / 2 ^ (8 * k) = ((x / 256 ^ k : Nat) : Int) := by
        have hp : (256 : Nat) ^ k = 2 ^ (8 * k) := by rw [Nat.pow_mul]
        rw [hp]; push_cast; rfl
      have HLL := Lib.hid (leB_len k x)
      generalize x / 256 ^ k = Q at *
      obtain ⟨y, hy⟩ : ∃ y, y = Q % 256 := ⟨_, rfl⟩
      rw [← hy] at HQ
      have htm : (Q : Int).tmod 256 = (y : Int) := by rw [Int.tmod_eq_emod_of_nonneg (by omega)]; omega
      have hy8 : IntKind.u8.wrap (y : Int) = (y : Int) := wr_u8 _ (by omega)
      have hk8 : IntKind.i64.wrap (8 * (k : Int)) = ((8 * k : Nat) : Int) := by rw [wr_i64 _ (by omega)]; omega
      clear hy
      have hbs := hb.out.size
      generalize leB k x = L at *
      go_wp2_with (at_builtin; refine app_B _ rfl _ _ rfl w.heap.size _ L y wr.heap.size 1 rfl rfl ?c0 ?c1 ?c2 ?c3 ?c4)
      case c0 => exact ho.out.tr (by (repeat (first | with_reducible exact Below.refl _ _ | with_reducible refine kp_alloc ?_ _ | with_reducible refine kp_drew ?_ | with_reducible refine kp_set ?_ (by first | omega | (simp; done) | (simp; omega)) _ | with_reducible refine kp_tr ?_ (by with_reducible assumption))))
      case c1 => simp [byteV]
      case c2 => have := HLL.out; omega
      case c3 => simp; omega
      case c4 =>
      intro v' w2 ho2 hg hat
      have H2 : Hid (OwnB w2 w.heap.size v' (leB (k + 1) x)) := Lib.hid (by rw [HQ.out]; exact ho2)
      have H3 : Hid (Below w.heap.size w w2) := Lib.hid (grown_below hg (bel_alloc hb.out (Nat.le_refl _) _) (Nat.le_refl _) ho.out.block)
      clear ho2 hg hat
      go_wp2_with fail
      exact ⟨⟨k + 1, by omega, by go_num, H2, H3⟩, by simp [intOf]; omega⟩
    · obtain rfl : k = n := by omega
      have hs := ho.out.str (HC := HC) (by rw [leB_len]; exact h0)
      go_wp2_with fail
      go_ret
      exact ⟨rfl, hb.out⟩
theorem rhalf_any (x : Nat) (w : World) (hx : x < 4294967296) :
    Calls (Go.Proofs.Ytgfgoflhmikalaa.par.loneP HC) 29 #[.int .u32 x] w fun e w' => e = .returned (.string (halfS x)) ∧ Below w.heap.size w w' := by
  have hw : IntKind.u64.wrap (x : Int) = (x : Int) := wr_u64 _ (by omega)
  go_enter (Go.Proofs.Ytgfgoflhmikalaa.par.lfun29 (H := HC)), Try.ntmps29
  go_wp2_with fail
  refine (rbytes_any x 4 _ (by omega) (by omega) (by omega)).mono ?_; rintro e w1 ⟨rfl, hb⟩
  rw [leB_4]
  go_wp2_with fail
  go_ret
  exact ⟨rfl, hb⟩
set_option maxRecDepth 100000 in
set_option maxHeartbeats 4000000 in
theorem rtake_any (s : ByteArray) (at_ : Nat) (w : World) (hs : s.size < 1000000000000) (ha : at_ < 1000000000000000) :
    Calls (Go.Proofs.Ytgfgoflhmikalaa.par.loneP HC) 35 #[.string s, .int .i64 at_] w fun e w' => e = .returned (takeV at_ (vt 0 0 ((bytesN s).drop at_))) ∧ w = w' := by
  have ia : ¬ (at_ : Int) < 0 := by omega
  generalize hR : vt 0 0 ((bytesN s).drop at_) = R
  go_enter (Go.Proofs.Ytgfgoflhmikalaa.par.lfun35 (H := HC)), Try.ntmps35
  go_wp2_with fail
  go_loopw [7, 8, 9] (fun y p n wr => ∃ v k : Nat, k ≤ 9 ∧ v < 128 ^ k ∧ y = .int .u64 v ∧ p = .int .u64 ((128 ^ k : Nat) : Int) ∧ n = .int .i64 k ∧ Hid (vt k v ((bytesN s).drop (at_ + k)) = R) ∧ wr = w) (fun _ _ n _ => 10 - (intOf n).toNat)
  case atStart => exact ⟨0, 0, by omega, by omega, rfl, rfl, rfl, Lib.hid hR, rfl⟩
  case round =>
    obtain ⟨v, k, hk, hv, rfl, rfl, rfl, hr, rfl⟩ := hrel
    clear hR
    generalize hq : at_ + k = p at *
    have h10 : (k : Int) < 10 := by omega
    have hsk : IntKind.i64.wrap ((s.size : Int) - (k : Int)) = (s.size : Int) - (k : Int) := wr_i64 _ (by omega)
    by_cases hlp : p < s.size
    · have hd := bytesN_drop hlp
      have hb : s[p].toNat < 256 := s[p].toNat_lt
      generalize hB : s[p].toNat = b at *
      have i1 : (p : Int) < (s.size : Int) := by omega
      have i2 : ¬ (s.size : Int) - (k : Int) ≤ (at_ : Int) := by omega
      have i3 : (at_ : Int) + (k : Int) = (p : Int) := by omega
      have HV : R = if (k = 9 ∧ 2 ≤ b) ∨ (0 < k ∧ b = 0) then .form else if b < 128 then .ok (v + b * 128 ^ k) (k + 1) else vt (k + 1) (v + (b - 128) * 128 ^ k) ((bytesN s).drop (p + 1)) := by
        rw [← hr.out, hd, vt]
      clear hd hr
      have hPl : 128 ^ k ≤ 9223372036854775808 := Nat.le_trans (Nat.pow_le_pow_right (by omega) hk) (by decide)
      have hP8 : k ≤ 8 → 128 ^ k ≤ 72057594037927936 := fun h => Nat.le_trans (Nat.pow_le_pow_right (by omega) h) (by decide)
      have hps : (128 : Nat) ^ (k + 1) = 128 * 128 ^ k := by rw [Nat.pow_succ, Nat.mul_comm]
      by_cases hF9 : k = 9 ∧ 2 ≤ b
      · rw [if_pos (.inl hF9)] at HV
        replace HV := Lib.hid HV
        have HF := Lib.hid hF9
        clear hps hP8 hPl hF9
        go_wp2_with fail
        all_goals (try simp only [beq_iff_eq, beq_eq_false_iff_ne, ne_eq] at *)
        all_goals first
          | (exfalso; have := HF.out; omega)
          | (((try simp only [Exit.inBlock, Exit.then, Exit.noGoto_ret, Exit.noGoto_normal, Exit.noGoto_exit]); refine bodyPost_ret (results_tmp3 rfl _ _ _) rfl ?_); rw [HV.out]; exact ⟨rfl, rfl⟩)
      · obtain ⟨m, hm⟩ : ∃ m, m = b % 128 := ⟨_, rfl⟩
        have htm : (b : Int).tmod 128 = (m : Int) := by rw [Int.tmod_eq_emod_of_nonneg (by omega)]; omega
        have hwm : IntKind.u64.wrap (m : Int) = (m : Int) := wr_u64 _ (by omega)
        have hm9 : k = 9 → m ≤ 1 := fun h => by omega
        generalize hP : 128 ^ k = P at *
        have hPm : v + P * m < 18446744073709551616 := by
          rcases Nat.lt_or_ge k 9 with h | h
          · have h1 := hP8 (by omega)
            have h2 : P * m ≤ 72057594037927936 * 127 := Nat.mul_le_mul h1 (by omega)
            omega
          · have h1 := hm9 (by omega)
            have h2 : P * m ≤ P * 1 := Nat.mul_le_mul (Nat.le_refl _) h1
            omega
        obtain ⟨PM, hPM⟩ : ∃ PM, PM = P * m := ⟨_, rfl⟩
        rw [← hPM] at hPm
        have hPMi : (P : Int) * (m : Int) = (PM : Int) := by rw [hPM]; push_cast; rfl
        have hmul : IntKind.u64.wrap ((P : Int) * (m : Int)) = (PM : Int) := by rw [hPMi]; exact wr_u64 _ (by omega)
        obtain ⟨V, hV⟩ : ∃ V, V = v + PM := ⟨_, rfl⟩
        have hadd : IntKind.u64.wrap ((v : Int) + (PM : Int)) = (V : Int) := by rw [wr_u64 _ (by omega)]; omega
        have HPM := Lib.hid hPM
        have HVV := Lib.hid hV
        obtain ⟨Q, hQ⟩ : ∃ Q : Int, Q = IntKind.u64.wrap (128 * (P : Int)) := ⟨_, rfl⟩
        have hw128 : IntKind.u64.wrap (128 * (P : Int)) = Q := hQ.symm
        have HQQ : Hid (k ≤ 8 → Q = ((128 * P : Nat) : Int)) := Lib.hid (fun h => by rw [hQ, wr_u64 _ (by have := hP8 h; omega)]; push_cast; rfl)
        have HPS := Lib.hid hps
        have HF := Lib.hid hF9
        have HV1 : Hid (b < 128 → V = v + b * P) := Lib.hid (fun h => by rw [hV, hPM, hm, Nat.mod_eq_of_lt h, Nat.mul_comm])
        have HV2 : Hid (128 ≤ b → V = v + (b - 128) * P ∧ (k ≤ 8 → V < 128 * P)) := Lib.hid (fun h => by
          have e : m = b - 128 := by omega
          rw [hV, hPM, e, Nat.mul_comm]
          refine ⟨rfl, fun _ => ?_⟩
          have : (b - 128) * P ≤ 127 * P := Nat.mul_le_mul_right _ (by omega)
          omega)
        clear hps hP8 hPl hF9 hQ hPM hV hPm hPMi hm hm9
        by_cases hb2 : b < 128
        · by_cases hz : b = 0 ∧ 0 < k
          · rw [if_pos (.inr ⟨hz.2, hz.1⟩)] at HV
            replace HV := Lib.hid HV
            obtain ⟨z1, z2⟩ := hz
            have HZ := Lib.hid z1
            clear z1
            have hb2i : (b : Int) < 128 := by omega
            clear hb2
            go_wp2_with fail
            all_goals (try simp only [beq_iff_eq, beq_eq_false_iff_ne, ne_eq] at *)
            all_goals first
              | (exfalso; have := HZ.out; have := HF.out; omega)
              | (((try simp only [Exit.inBlock, Exit.then, Exit.noGoto_ret, Exit.noGoto_normal, Exit.noGoto_exit]); refine bodyPost_ret (results_tmp3 rfl _ _ _) rfl ?_); rw [HV.out]; exact ⟨rfl, rfl⟩)
          · rw [if_neg (by rintro (h | h); exact HF.out h; exact hz ⟨h.2, h.1⟩), if_pos hb2] at HV
            replace HV : Hid (R = .ok V (k + 1)) := Lib.hid (by rw [HV, HV1.out hb2])
            have HZ := Lib.hid hz
            have hb2i : (b : Int) < 128 := by omega
            clear hb2 hz
            go_wp2_with fail
            all_goals (try simp only [beq_iff_eq, beq_eq_false_iff_ne, ne_eq] at *)
            all_goals first
              | (exfalso; have := HZ.out; have := HF.out; omega)
              | (((try simp only [Exit.inBlock, Exit.then, Exit.noGoto_ret, Exit.noGoto_normal, Exit.noGoto_exit]); refine bodyPost_ret (results_tmp3 rfl _ _ _) rfl ?_); rw [HV.out]; refine ⟨?_, rfl⟩; show _ = Ending.returned (.tuple #[.int .u64 (V : Int), .int .i64 ((at_ + (k + 1) : Nat) : Int), .int .i64 0]); first | (rw [show ((at_ + (k + 1) : Nat) : Int) = (p : Int) + 1 from by omega]; rfl) | (rw [show ((at_ + (k + 1) : Nat) : Int) = (at_ : Int) + 9 + 1 from by omega]; rfl))
              | (trace_state; fail)
        · have hk8 : k ≤ 8 := by have := HF.out; omega
          rw [if_neg (by rintro (h | h) <;> omega), if_neg hb2] at HV
          replace HV : Hid (R = vt (k + 1) V ((bytesN s).drop (p + 1))) := Lib.hid (by rw [HV, (HV2.out (by omega)).1])
          have HN := Lib.hid ((HV2.out (by omega)).2 hk8)
          have HQ9 := Lib.hid (HQQ.out hk8)
          have hk9 : ¬ (k : Int) = 9 := by omega
          have hb2i : ¬ (b : Int) < 128 := by omega
          clear hb2 HQQ
          go_wp2_with fail
          all_goals (try simp only [beq_iff_eq, beq_eq_false_iff_ne, ne_eq] at *)
          all_goals first
            | (exfalso; have := HF.out; omega)
            | exact ⟨⟨V, k + 1, by omega, by rw [HPS.out]; exact HN.out, rfl, by rw [HQ9.out, HPS.out], by go_num, by rw [show at_ + (k + 1) = p + 1 from by omega]; exact Lib.hid HV.out.symm, trivial⟩, by simp [intOf]; omega⟩
            | (trace_state; fail)
    · obtain hge : s.size ≤ p := by omega
      have hd : (bytesN s).drop p = [] := List.drop_eq_nil_of_le (by rw [bytesN_len]; omega)
      have HR : Hid (R = .short) := Lib.hid (by rw [← hr.out, hd]; rfl)
      have i2 : (s.size : Int) - (k : Int) ≤ (at_ : Int) := by omega
      clear hr hd
      go_wp2_with fail
      ((try simp only [Exit.inBlock, Exit.then, Exit.noGoto_ret, Exit.noGoto_normal, Exit.noGoto_exit]); refine bodyPost_ret (results_tmp3 rfl _ _ _) rfl ?_)
      rw [HR.out]
      exact ⟨rfl, rfl⟩
end Go.Proofs.Ytgfgoflhmikalaa.fr

namespace Go.Proofs.Ytgfgoflhmikalaa.fr
open Go.RowKit Go.Proofs.Ytgfgoflhmikalaa.cm Go.Proofs.Ytgfgoflhmikalaa.cw
set_option linter.unusedVariables false
set_option linter.unusedSimpArgs false
variable {HC : Code}
attribute [local irreducible] Go.Proofs.Ytgfgoflhmikalaa.par.loneP
theorem rup_any (c b : Nat) (w : World) (hc : c < 4294967296) (hb : b < 4294967296) :
    Calls (Go.Proofs.Ytgfgoflhmikalaa.par.loneP HC) 77 #[.int .u32 (c : Int), .int .u32 (b : Int)] w fun e w' => e = .returned (.int .u32 ((halfN (c ^^^ b) : Nat) : Int)) ∧ w = w' := by
  have hx := u32_xor_nat c b hc hb
  have hl := xor32_lt hc hb
  generalize hi : c ^^^ b = i at hx hl
  clear hi
  by_cases h1 : i % 2 = 1
  · have H := Lib.hid (half_odd h1)
    have hy := u32_xor_nat (i / 2) 3988292384 (by omega) (by omega)
    rw [show ((i / 2 : Nat) : Int) = (i : Int) / 2 from by omega, show ((3988292384 : Nat) : Int) = 3988292384 from rfl] at hy
    have h2 : ((i : Int) % 2 == 1) = true := by simp; omega
    clear h1
    go_enter (Go.Proofs.Ytgfgoflhmikalaa.par.lfun77 (H := HC)), Try.ntmps77
    go_wp2
    go_ret
    exact retI (by rw [H.out]) rfl
  · have H := Lib.hid (half_even h1)
    have h2 : ((i : Int) % 2 == 1) = false := by simp; omega
    clear h1
    go_enter (Go.Proofs.Ytgfgoflhmikalaa.par.lfun77 (H := HC)), Try.ntmps77
    go_wp2
    go_ret
    exact retI (by rw [H.out]; omega) rfl
theorem rup_at (c : Nat) (x : Int) (w : World) (hc : c < 4294967296) (h1 : 0 ≤ x) (h2 : x < 4294967296) :
    Calls (Go.Proofs.Ytgfgoflhmikalaa.par.loneP HC) 77 #[.int .u32 (c : Int), .int .u32 x] w fun e w' => e = .returned (.int .u32 ((halfN (c ^^^ x.toNat) : Nat) : Int)) ∧ w = w' := by
  obtain ⟨k, rfl⟩ := Int.eq_ofNat_of_zero_le h1
  exact rup_any c k w hc (by omega)
def bst (c b k : Nat) : Nat := iter halfN k (c ^^^ (b % 2 ^ k))
theorem bst_succ (c b k : Nat) : bst c b (k + 1) = halfN (bst c b k ^^^ (b / 2 ^ k % 2)) := by
  have e : b % 2 ^ (k + 1) = (b % 2 ^ k) ^^^ (2 ^ k * (b / 2 ^ k % 2)) := by
    have h := split_lo (b % 2 ^ (k + 1)) k
    rw [Nat.mod_mod_of_dvd _ (Nat.pow_dvd_pow 2 (by omega))] at h
    rw [h]; congr 1; congr 1
    rw [Nat.pow_succ, Nat.mod_mul_right_div_self]
  unfold bst
  rw [e, iter_succ', ← Nat.xor_assoc, iter_xor, iter_pow]
theorem bit_ex (b k : Nat) (hb : b < 256) : ∃ z : Nat, (b : Int) / 2 ^ k = (z : Int) ∧ z = b / 2 ^ k ∧ z < 256 :=
  ⟨b / 2 ^ k, by simp, rfl, Nat.lt_of_le_of_lt (Nat.div_le_self _ _) hb⟩
theorem rbyte_any (c b : Nat) (w : World) (hc : c < 4294967296) (hb : b < 256) :
    Calls (Go.Proofs.Ytgfgoflhmikalaa.par.loneP HC) 53 #[.int .u32 (c : Int), .int .u8 (b : Int)] w fun e w' => e = .returned (.int .u32 ((upN c b : Nat) : Int)) ∧ w = w' := by
  have HE : Hid (bst c b 8 = upN c b) := by show iter halfN 8 (c ^^^ (b % 256)) = zeroN (c ^^^ b); rw [Nat.mod_eq_of_lt hb]; rfl
  have HL : Hid (∀ k, bst c b k < 4294967296) := fun k => iter_lt k (xor32_lt hc (Nat.lt_of_le_of_lt (Nat.mod_le _ _) (by omega)))
  go_enter (Go.Proofs.Ytgfgoflhmikalaa.par.lfun53 (H := HC)), Try.ntmps53
  go_wp2_with fail
  go_loop [5, 6] (fun v i => ∃ k : Nat, k ≤ 8 ∧ i = .int .i64 k ∧ v = .int .u32 ((bst c b k : Nat) : Int)) (fun _ i => 8 - (intOf i).toNat)
  case atStart => exact ⟨0, by omega, rfl, by simp [bst, iter, Nat.mod_one]⟩
  case round =>
    obtain ⟨k, hk, rfl, rfl⟩ := hrel
    by_cases hlt : k < 8
    · have HS := Lib.hid (bst_succ c b k)
      have hl := HL.out k
      generalize hq : bst c b k = q at *
      clear hq
      obtain ⟨z, hz, hzd, hzl⟩ := bit_ex b k hb
      have HZ := Lib.hid hzd
      clear hzd
      go_wp2_with fail
      refine (rup_at q _ _ hl (by omega) (by omega)).mono ?_; rintro e w' ⟨rfl, rfl⟩
      go_wp2_with fail
      exact ⟨⟨k + 1, by omega, by go_num, by rw [HS.out, ← HZ.out]; congr 4⟩, by simp [intOf]; omega⟩
    · obtain rfl : k = 8 := by omega
      go_wp2_with fail
      go_ret
      exact ⟨by rw [← HE.out]; rfl, rfl⟩
set_option maxRecDepth 100000 in
theorem rmore_any (c : Nat) (s : ByteArray) (w : World) (h : c < 4294967296) (hs : s.size ≤ maxLen) :
    Calls (Go.Proofs.Ytgfgoflhmikalaa.par.loneP HC) 41 #[.int .u32 (c : Int), .string s] w fun e w' => e = .returned (.int .u32 ((moreN c (bytesN s) : Nat) : Int)) ∧ w = w' := by
  unfold maxLen at hs
  have hx := u32_xor_nat c 4294967295 h (by omega)
  rw [show ((4294967295 : Nat) : Int) = 4294967295 from rfl] at hx
  have hct : c ^^^ 4294967295 = c ^^^ top32 := by unfold top32; rfl
  rw [hct] at hx
  have hc0 : c ^^^ top32 < 4294967296 := xor32_lt h (by unfold top32; omega)
  have HM : Hid (moreN c (bytesN s) = feedN (c ^^^ top32) (bytesN s) ^^^ top32) := rfl
  generalize hg : c ^^^ top32 = c0 at hx hc0 HM
  clear hg hct
  have hend := u32_xor_nat (feedN c0 (bytesN s)) 4294967295 (feedN_lt _ hc0 (bytesN_lt s)) (by omega)
  rw [show ((4294967295 : Nat) : Int) = 4294967295 from rfl] at hend
  have HE := Lib.hid hend
  clear hend
  go_enter (Go.Proofs.Ytgfgoflhmikalaa.par.lfun41 (H := HC)), Try.ntmps41
  go_wp2_with fail
  go_loop [5, 6] (fun v i => ∃ k : Nat, k ≤ s.size ∧ i = .int .i64 k ∧ v = .int .u32 ((feedN c0 ((bytesN s).take k) : Nat) : Int)) (fun _ i => s.size - (intOf i).toNat)
  case atStart => exact ⟨0, Nat.zero_le _, rfl, rfl⟩
  case round =>
    obtain ⟨k, hk, rfl, rfl⟩ := hrel
    have hfl : feedN c0 ((bytesN s).take k) < 4294967296 := feedN_lt _ hc0 (fun b hb => bytesN_lt s b (List.mem_of_mem_take hb))
    by_cases hlt : k < s.size
    · have HS : Hid (feedN c0 ((bytesN s).take (k + 1)) = upN (feedN c0 ((bytesN s).take k)) s[k].toNat) := by rw [bytesN_snoc s k hlt]; exact feedN_snoc _ _ _
      generalize hq : feedN c0 ((bytesN s).take k) = q at *
      clear hq
      go_wp2_with fail
      refine (rbyte_any q _ _ hfl s[k].toNat_lt).mono ?_; rintro e w2 ⟨rfl, rfl⟩
      go_wp2_with fail
      exact ⟨⟨k + 1, by omega, by go_num, by rw [HS.out]⟩, by simp [intOf]; omega⟩
    · obtain rfl : k = s.size := by omega
      have ht : (bytesN s).take s.size = bytesN s := List.take_of_length_le (by rw [bytesN_len]; omega)
      rw [ht]
      have hE := HE.out
      go_wp2_with fail
      go_ret
      refine ⟨?_, rfl⟩
      rw [HM.out]; unfold top32; rfl
theorem rsum_any (s : ByteArray) (w : World) (hs : s.size ≤ maxLen) :
    Calls (Go.Proofs.Ytgfgoflhmikalaa.par.loneP HC) 30 #[.string s] w fun e w' => e = .returned (.int .u32 ((sumN (bytesN s) : Nat) : Int)) ∧ w = w' := by
  go_enter (Go.Proofs.Ytgfgoflhmikalaa.par.lfun30 (H := HC)), Try.ntmps30
  go_wp2_with fail
  refine (rmore_any 0 s _ (by omega) hs).mono ?_; rintro e w2 ⟨rfl, rfl⟩
  go_wp2_with fail
  go_ret
  exact ⟨rfl, rfl⟩
end Go.Proofs.Ytgfgoflhmikalaa.fr

namespace Go.Proofs.Ytgfgoflhmikalaa.fr
open Go Go.RowKit Go.Proofs.Ytgfgoflhmikalaa.cm Go.Proofs.Ytgfgoflhmikalaa.cw Go.Proofs.Ytgfgoflhmikalaa.ga Go.Proofs.Ytgfgoflhmikalaa.gr Go.Proofs.Ytgfgoflhmikalaa.lw Go.Proofs.Ytgfgoflhmikalaa.fl
set_option linter.unusedVariables false
set_option linter.unusedSimpArgs false
variable {HC : Code}
attribute [local irreducible] Go.Proofs.Ytgfgoflhmikalaa.par.loneP
set_option maxRecDepth 100000 in
set_option maxHeartbeats 4000000 in
theorem dput_any (id : Nat) (body : ByteArray) (w : World) (h1 : 1 ≤ id) (h2 : id ≤ 127) (hs : body.size < 100000000000) :
    Calls (Go.Proofs.Ytgfgoflhmikalaa.par.loneP HC) 14 #[.int .i64 id, .string body] w fun e w' => e = .returned (.tuple #[.string (frameS id body), .int .i64 0]) ∧ Below w.heap.size w w' := by
  have hw8 : IntKind.u8.wrap (id : Int) = (id : Int) := wr_u8 _ (by omega)
  have hw64 : IntKind.u64.wrap (body.size : Int) = (body.size : Int) := wr_u64 _ (by omega)
  have hbig : ¬ 127 < (id : Int) := by omega
  have hcv : ∀ (n : Nat) (W' : World), W'.cell? ⟨n, 0, none⟩ = some (.int .u8 (id : Int)) → (convert 45 9 (.slice (some ⟨n, 0, none⟩) 1 1)).run (Go.Proofs.Ytgfgoflhmikalaa.par.loneP HC) W' = .ok (.string (strB [id])) W' := fun n W' h => conv1 _ id _ h
  have hAs : (strB [id]).size = 1 := strB_size _
  have hBs : (strB (putN body.size)).size ≤ 10 := by rw [strB_size]; exact putN_10 (by omega)
  have HF : Hid (frameS id body = headS id body ++ halfS (sumN (bytesN (headS id body)))) := Lib.hid rfl
  have HH : Hid (headS id body = strB [id] ++ strB (putN body.size) ++ body) := Lib.hid rfl
  have HP := Lib.hid (rput_any (HC := HC) body.size)
  generalize strB [id] = A at *
  generalize strB (putN body.size) = B at *
  have ad1 := add_run (HC := HC) A B (by omega)
  have ad2 := add_run (HC := HC) (A ++ B) body (by simp; omega)
  have hHs : (A ++ B ++ body).size ≤ maxLen := by unfold maxLen; simp; omega
  have hS := moreN_lt (bytesN (A ++ B ++ body)) (c := 0) (by omega) (bytesN_lt _)
  change sumN (bytesN (A ++ B ++ body)) < _ at hS
  generalize hX : sumN (bytesN (A ++ B ++ body)) = X at *
  have HX := Lib.hid hX
  have HZ := Lib.hid (rhalf_any (HC := HC) X)
  have hZs : (halfS X).size = 4 := by unfold halfS; rw [strB_size]; simp [le4]
  have HF2 : Hid (frameS id body = A ++ B ++ body ++ halfS X) := Lib.hid (by rw [HF.out, HH.out, hX])
  clear hX HF HH
  generalize halfS X = Z at *
  have ad3 := add_run (HC := HC) (A ++ B ++ body) Z (by simp; omega)
  go_enter (Go.Proofs.Ytgfgoflhmikalaa.par.lfun14 (H := HC)), Try.ntmps14
  go_wp2_with fail
  go_region_with
    (first
      | (go_at_call 28; refine (HP.out _ (by omega)).mono ?_; rintro e w1 ⟨rfl, k1⟩; obtain ⟨k1c, k1f⟩ := bcell k1; have k1z := k1.size))
  all_goals
    clear hcv HP ad1 ad2
    go_wp2_with fail
    refine (rsum_any _ _ hHs).mono ?_
    rintro e w2 ⟨rfl, rfl⟩
    rw [HX.out]
    go_wp2_with fail
    refine (HZ.out _ hS).mono ?_
    rintro e w3 ⟨rfl, k3⟩
    go_wp2_with fail
    go_ret2
    exact ⟨by rw [HF2.out]; rfl, by (repeat (first | with_reducible exact Below.refl _ _ | with_reducible refine kp_alloc ?_ _ | with_reducible refine kp_drew ?_ | with_reducible refine kp_set ?_ (by first | omega | (simp; done) | (simp; omega)) _ | with_reducible refine kp_tr ?_ (by with_reducible assumption)))⟩
theorem dput_bad (id : Int) (body : ByteArray) (w : World) (h : id < 1 ∨ 127 < id) :
    Calls (Go.Proofs.Ytgfgoflhmikalaa.par.loneP HC) 14 #[.int .i64 id, .string body] w fun e w' => e = .returned (.tuple #[.string ⟨#[]⟩, .int .i64 1]) ∧ Below w.heap.size w w' := by
  by_cases h1 : id < 1
  · go_enter (Go.Proofs.Ytgfgoflhmikalaa.par.lfun14 (H := HC)), Try.ntmps14
    go_wp2_with fail
    all_goals first | (exfalso; omega) | (go_ret2; exact ⟨rfl, by (repeat (first | with_reducible exact Below.refl _ _ | with_reducible refine kp_alloc ?_ _ | with_reducible refine kp_drew ?_ | with_reducible refine kp_set ?_ (by first | omega | (simp; done) | (simp; omega)) _ | with_reducible refine kp_tr ?_ (by with_reducible assumption)))⟩)
  · have h2 : 127 < id := by omega
    have h3 : 1 ≤ id := by omega
    go_enter (Go.Proofs.Ytgfgoflhmikalaa.par.lfun14 (H := HC)), Try.ntmps14
    go_wp2_with fail
    all_goals first | (exfalso; omega) | (go_ret2; exact ⟨rfl, by (repeat (first | with_reducible exact Below.refl _ _ | with_reducible refine kp_alloc ?_ _ | with_reducible refine kp_drew ?_ | with_reducible refine kp_set ?_ (by first | omega | (simp; done) | (simp; omega)) _ | with_reducible refine kp_tr ?_ (by with_reducible assumption)))⟩)
set_option maxRecDepth 100000 in
set_option maxHeartbeats 4000000 in
theorem djoin_any (v : Value) (fs : List GFr) (w : World) (hv : RIn 2 encF w v fs) (hl : fs.length ≤ 10000) (hs : ∀ f ∈ fs, f.2.size ≤ 100000) (h63 : ∀ f ∈ fs, -9223372036854775808 ≤ f.1 ∧ f.1 < 9223372036854775808) :
    Calls (Go.Proofs.Ytgfgoflhmikalaa.par.loneP HC) 12 #[v] w fun e w' => e = .returned (.tuple #[.string (joinR fs).1, .int .i64 (joinR fs).2]) ∧ Below w.heap.size w w' := by
  obtain ⟨ad, b, off, cap, rfl, h1, h2, h3, h4, h5, hin⟩ := hv.form
  have HV := Lib.hid hin
  clear hv hin
  have HS := Lib.hid hs
  have H63 := Lib.hid h63
  clear hs h63
  have HJ : Hid (joinR fs = if ∀ f ∈ fs, idOk f then (⟨(joinU fs).toArray⟩, 0) else (⟨#[]⟩, 1)) := Lib.hid rfl
  go_enter (Go.Proofs.Ytgfgoflhmikalaa.par.lfun12 (H := HC)), Try.ntmps12
  go_wp2_with fail
  go_loopw [4, 5] (fun o i wr => ∃ (k : Nat) (A : ByteArray), k ≤ fs.length ∧ o = .string A ∧ i = .int .i64 k ∧ Hid (∀ j, j < k → idOk (fs.getD j (0, ⟨#[]⟩))) ∧ Hid (A = ⟨(joinU (fs.take k)).toArray⟩) ∧ A.size ≤ k * 100015 ∧ Hid (Below w.heap.size w wr)) (fun _ i _ => fs.length - (intOf i).toNat)
  case atStart => exact ⟨0, ⟨#[]⟩, Nat.zero_le _, rfl, rfl, Lib.hid (fun j hj => absurd hj (by omega)), Lib.hid rfl, Nat.le_of_eq rfl, Lib.hid (by (repeat (first | with_reducible exact Below.refl _ _ | with_reducible refine kp_alloc ?_ _ | with_reducible refine kp_drew ?_ | with_reducible refine kp_set ?_ (by first | omega | (simp; done) | (simp; omega)) _ | with_reducible refine kp_tr ?_ (by with_reducible assumption))))⟩
  case round =>
    obtain ⟨k, A, hk, rfl, rfl, hok, hA, hlen, hb⟩ := hrel
    by_cases hlk : k < fs.length
    · obtain rfl := h1 (by omega)
      have hx : fs[k]? = some (fs.getD k (0, ⟨#[]⟩)) := by simp [List.getD, hlk]
      have hmem : fs.getD k (0, ⟨#[]⟩) ∈ fs := by simp [List.getD, hlk]
      have hsz := HS.out _ hmem
      obtain ⟨i1, i2⟩ := H63.out _ hmem
      have e0 := cell_tr hb.out (HV.out.at hx 0 _ rfl)
      have e1 := cell_tr hb.out (HV.out.at hx 1 _ rfl)
      rw [Nat.add_zero] at e0
      have hlt := h5 (by omega)
      have hsn := Lib.hid (joinU_snoc fs k hlk)
      have hbad : Hid (¬ idOk (fs.getD k (0, ⟨#[]⟩)) → joinR fs = (⟨#[]⟩, 1)) := Lib.hid (fun h => by rw [HJ.out, if_neg (fun h2 => h (h2 _ hmem))])
      have hnext : Hid (idOk (fs.getD k (0, ⟨#[]⟩)) → ∀ j, j < k + 1 → idOk (fs.getD j (0, ⟨#[]⟩))) := Lib.hid (fun h j hj => by
        by_cases e : j = k
        · rw [e]; exact h
        · exact hok.out j (by omega))
      clear hx hmem hok
      generalize fs.getD k (0, ⟨#[]⟩) = f at *
      obtain ⟨id, body⟩ := f
      dsimp only at *
      by_cases hid : 1 ≤ id ∧ id ≤ 127
      · obtain ⟨n, rfl⟩ := Int.eq_ofNat_of_zero_le (show 0 ≤ id by omega)
        have HP := Lib.hid (fun W => dput_any (HC := HC) n body W (by omega) (by omega) (by omega))
        have hfs := frameS_size n body (by omega)
        have hsn2 : Hid ((⟨(joinU (fs.take (k + 1))).toArray⟩ : ByteArray) = A ++ frameS n body) := Lib.hid (by
          rw [hsn.out, hA.out]
          apply ByteArray.ext
          simp [bytesU])
        have hnx := Lib.hid (hnext.out hid)
        clear hsn hbad hnext hA
        generalize frameS n body = S at *
        have ad1 := add_run (HC := HC) A S (by omega)
        have hL : (A ++ S).size ≤ (k + 1) * 100015 := by simp; omega
        generalize hAS : A ++ S = AS at *
        clear hAS
        go_wp2_with fail
        go_region_with
          (first
            | (go_at_call 14; refine (HP.out _).mono ?_; rintro e' w1 ⟨rfl, k1⟩))
        all_goals
          have hb1 : Hid (Below w.heap.size w w1) := Lib.hid (by have := hb.out; (repeat (first | with_reducible exact Below.refl _ _ | with_reducible refine kp_alloc ?_ _ | with_reducible refine kp_drew ?_ | with_reducible refine kp_set ?_ (by first | omega | (simp; done) | (simp; omega)) _ | with_reducible refine kp_tr ?_ (by with_reducible assumption))))
          clear k1 hb HP
          go_wp2_with fail
          exact ⟨⟨k + 1, AS, by omega, rfl, by go_num, hnx, Lib.hid hsn2.out.symm, hL, hb1⟩, by simp [intOf]; omega⟩
      · have HB := Lib.hid (hbad.out hid)
        have HP := Lib.hid (fun W => dput_bad (HC := HC) id body W (by omega))
        clear hsn hbad hnext
        go_wp2_with fail
        go_region_with
          (first
            | (go_at_call 14; refine (HP.out _).mono ?_; rintro e' w1 ⟨rfl, k1⟩))
        all_goals
          have hb1 : Hid (Below w.heap.size w w1) := Lib.hid (by have := hb.out; (repeat (first | with_reducible exact Below.refl _ _ | with_reducible refine kp_alloc ?_ _ | with_reducible refine kp_drew ?_ | with_reducible refine kp_set ?_ (by first | omega | (simp; done) | (simp; omega)) _ | with_reducible refine kp_tr ?_ (by with_reducible assumption))))
          clear k1
          go_wp2_with fail
          go_ret2
          exact ⟨by rw [HB.out]; rfl, hb1.out⟩
    · obtain rfl : k = fs.length := by omega
      rw [List.take_length] at hA
      have HR : Hid (joinR fs = (A, 0)) := Lib.hid (by
        rw [HJ.out, if_pos, hA.out]
        intro f hf
        obtain ⟨i, hi, rfl⟩ := List.getElem_of_mem hf
        have := hok.out i hi
        simpa [List.getD, hi] using this)
      go_wp2_with fail
      go_ret2
      exact ⟨by rw [HR.out]; rfl, hb.out⟩
end Go.Proofs.Ytgfgoflhmikalaa.fr

namespace Go.Proofs.Ytgfgoflhmikalaa.fr
open Go Go.RowKit Go.Proofs.Ytgfgoflhmikalaa.cm Go.Proofs.Ytgfgoflhmikalaa.cw Go.Proofs.Ytgfgoflhmikalaa.ga Go.Proofs.Ytgfgoflhmikalaa.gr Go.Proofs.Ytgfgoflhmikalaa.lw Go.Proofs.Ytgfgoflhmikalaa.fl
set_option linter.unusedVariables false
set_option linter.unusedSimpArgs false
variable {HC : Code}
attribute [local irreducible] Go.Proofs.Ytgfgoflhmikalaa.par.loneP
set_option maxRecDepth 100000 in
set_option maxHeartbeats 4000000 in
theorem dtake_any (s : ByteArray) (at_ : Nat) (w : World) (hs : s.size < 1000000000000) (ha : at_ < 9223372036854775808) :
    Calls (Go.Proofs.Ytgfgoflhmikalaa.par.loneP HC) 21 #[.string s, .int .i64 at_] w fun e w' => e = .returned (tkV (tk s at_)) ∧ Below w.heap.size w w' := by
  have HT : Hid (tk s at_ = match rd (bytesN s) at_ with | .bad e => .bad e | .ok a b n => if gbE s (cI3 (a, b, n)) then .ok ((bytesN s).getD a 0) (s.extract b n) (n + 4) else .bad 4) := Lib.hid rfl
  have hws4 : IntKind.i64.wrap ((s.size : Int) - 4) = (s.size : Int) - 4 := wr_i64 _ (by omega)
  by_cases hlt : at_ < s.size
  · have hd := bytesN_drop hlt
    have hB : s[at_].toNat < 256 := s[at_].toNat_lt
    have hg0 : (bytesN s).getD at_ 0 = s[at_].toNat := by
      have hl : at_ < (bytesN s).length := by rw [bytesN_len]; exact hlt
      rw [List.getD, List.getElem?_eq_getElem hl]
      simp [bytesN]
      rfl
    generalize hb : s[at_].toNat = b at *
    have i1 : (at_ : Int) < (s.size : Int) := by omega
    by_cases hF : b < 1 ∨ 127 < b
    · have HR : Hid (tk s at_ = .bad 3) := Lib.hid (by rw [HT.out]; unfold rd; rw [hd]; simp only [if_pos hF])
      clear hd hg0
      go_enter (Go.Proofs.Ytgfgoflhmikalaa.par.lfun21 (H := HC)), Try.ntmps21
      go_wp2_with fail
      all_goals (try simp only [beq_iff_eq, beq_eq_false_iff_ne, ne_eq] at *)
      all_goals first | (exfalso; omega) | ((try simp only [Exit.inBlock, Exit.then]); refine bodyPost_ret (v := tkV (.bad 3)) (by simp only [results, Try.results21, tkV, frV]; go_simp) rfl ⟨by rw [HR.out], ?_⟩; (repeat (first | with_reducible exact Below.refl _ _ | with_reducible refine kp_alloc ?_ _ | with_reducible refine kp_drew ?_ | with_reducible refine kp_set ?_ (by first | omega | (simp; done) | (simp; omega)) _ | with_reducible refine kp_tr ?_ (by with_reducible assumption))))
    · have hta := rtake_any (HC := HC) s (at_ + 1)
      have hrd : rd (bytesN s) at_ = match vt 0 0 ((bytesN s).drop (at_ + 1)) with | .short => .bad 2 | .form => .bad 3 | .ok v k => if at_ + 1 + k + v + 4 ≤ s.size then .ok at_ (at_ + 1 + k) (at_ + 1 + k + v) else .bad 2 := by
        unfold rd
        rw [hd]
        simp only
        rw [if_neg hF, bytesN_len]
        rfl
      have hbl : ∀ x ∈ (bytesN s).drop (at_ + 1), x < 256 := fun x hx => bytesN_lt s x (List.mem_of_mem_drop hx)
      have hok := fun v' k => @vt_ok ((bytesN s).drop (at_ + 1)) 0 0 v' k hbl
      have hlen : ((bytesN s).drop (at_ + 1)).length = s.size - (at_ + 1) := by simp [bytesN_len]
      generalize vt 0 0 ((bytesN s).drop (at_ + 1)) = R at *
      rw [show (((at_ + 1 : Nat)) : Int) = (at_ : Int) + 1 from by omega] at hta
      have HQ := Lib.hid hta
      clear hd hta hbl
      have hwa : IntKind.i64.wrap ((at_ : Int) + 1) = (at_ : Int) + 1 := wr_i64 _ (by omega)
      rcases R with ⟨v, k⟩ | _ | _
      · obtain ⟨k1, k2, k3⟩ := hok v k (by decide) (by omega) rfl
        clear hok
        rw [hlen] at k2
        clear hlen
        by_cases hP : at_ + 1 + k + v + 4 ≤ s.size
        · have hrd2 : rd (bytesN s) at_ = .ok at_ (at_ + 1 + k) (at_ + 1 + k + v) := by rw [hrd]; simp only; rw [if_pos hP]
          have hT2 := HT.out
          rw [hrd2] at hT2
          simp only at hT2
          clear hrd hrd2
          obtain ⟨E, hE⟩ : ∃ E, E = at_ + 1 + k + v := ⟨_, rfl⟩
          rw [← hE] at hT2
          rw [hg0] at hT2
          have hGE : gbE s (cI3 (at_, at_ + 1 + k, E)) = (s.extract E (E + 4) == halfS (sumN (bytesN (s.extract at_ E)))) := by
            show (s.extract E ((E : Int) + 4).toNat == _) = _
            rw [show ((E : Int) + 4).toNat = E + 4 from by omega]
            rfl
          rw [hGE] at hT2
          have hM : ((s.extract at_ E).size : Nat) ≤ maxLen := by unfold maxLen; simp; omega
          have hS := moreN_lt (bytesN (s.extract at_ E)) (c := 0) (by omega) (bytesN_lt _)
          change sumN (bytesN (s.extract at_ E)) < _ at hS
          generalize hX : sumN (bytesN (s.extract at_ E)) = X at *
          have HX := Lib.hid hX
          clear hX hGE hg0
          have HZ := Lib.hid (rhalf_any (HC := HC) X)
          generalize hBd : at_ + 1 + k = Bd at *
          have hb1 : Bd ≤ s.size := by omega
          have j1 : ¬ (s.size : Int) - 4 < (Bd : Int) := by omega
          have hw5 : IntKind.i64.wrap ((s.size : Int) - 4 - (Bd : Int)) = (s.size : Int) - 4 - (Bd : Int) := wr_i64 _ (by omega)
          have hw6 : IntKind.u64.wrap ((s.size : Int) - 4 - (Bd : Int)) = (s.size : Int) - 4 - (Bd : Int) := wr_u64 _ (by omega)
          have j2 : ¬ (s.size : Int) - 4 - (Bd : Int) < (v : Int) := by omega
          have hwv : IntKind.i64.wrap (v : Int) = (v : Int) := wr_i64 _ (by omega)
          have hwE : IntKind.i64.wrap ((Bd : Int) + (v : Int)) = (E : Int) := by rw [wr_i64 _ (by omega)]; omega
          obtain ⟨F, hFF⟩ : ∃ F, F = E + 4 := ⟨_, rfl⟩
          have hwF : IntKind.i64.wrap ((E : Int) + 4) = (F : Int) := by rw [wr_i64 _ (by omega)]; omega
          rw [← hFF] at hT2
          have l1 : (E : Int) ≤ (F : Int) := by omega
          have l2 : (F : Int) ≤ (s.size : Int) := by omega
          have l3 : (at_ : Int) ≤ (E : Int) := by omega
          have l4 : (E : Int) ≤ (s.size : Int) := by omega
          have l5 : (Bd : Int) ≤ (E : Int) := by omega
          have l6 : (0 : Int) ≤ (E : Int) := by omega
          have l7 : (0 : Int) ≤ (F : Int) := by omega
          have l8 : (0 : Int) ≤ (Bd : Int) := by omega
          have hwx : IntKind.i64.wrap (b : Int) = (b : Int) := wr_i64 _ (by omega)
          replace HT := Lib.hid hT2
          clear hT2
          have HBd := Lib.hid hBd
          clear hE hFF hBd
          go_enter (Go.Proofs.Ytgfgoflhmikalaa.par.lfun21 (H := HC)), Try.ntmps21
          go_wp2_with fail
          all_goals (try simp only [beq_iff_eq, beq_eq_false_iff_ne, ne_eq] at *)
          all_goals first | (exfalso; omega) | skip
          refine (HQ.out _ hs (by omega)).mono ?_; rintro e ww ⟨rfl, rfl⟩
          simp only [takeV]
          rw [HBd.out]
          go_wp2_with fail
          all_goals (try simp only [beq_iff_eq, beq_eq_false_iff_ne, ne_eq] at *)
          all_goals first | (exfalso; omega) | skip
          have hZs : (halfS X).size = 4 := by unfold halfS; rw [strB_size]; simp [le4]
          have hUs : (s.extract E F).size ≤ 1000000000000 := by simp; omega
          generalize halfS X = Z at *
          go_region_held3 (fun _ => True) (trivial)
            (first
              | (go_at_call 30; refine (rsum_any _ _ hM).mono ?_; rintro e w2 ⟨rfl, rfl⟩; rw [HX.out])
              | (go_at_call 29; refine (HZ.out _ hS).mono ?_; rintro e w3 ⟨rfl, k3⟩; have K3 := (Blk.new w #[.int .i64 0, .string ⟨#[]⟩] 27).drew.tr k3))
          obtain ⟨l4, c4, f4⟩ := K3.get
          have e0 : w3.cell? ⟨w.heap.size, 0, none⟩ = some (.int .i64 0) := c4 0
          have e1 : w3.cell? ⟨w.heap.size, 1, none⟩ = some (.string ⟨#[]⟩) := c4 1
          have g0 := f4 0
          have g1 := f4 1
          have hb3 : Below w.heap.size w w3 := by (repeat (first | with_reducible exact Below.refl _ _ | with_reducible refine kp_alloc ?_ _ | with_reducible refine kp_drew ?_ | with_reducible refine kp_set ?_ (by first | omega | (simp; done) | (simp; omega)) _ | with_reducible refine kp_tr ?_ (by with_reducible assumption)))
          clear c4 f4 K3 k3
          generalize s.extract E F = U at *
          generalize hY : s.extract Bd E = Y at *
          have hG2 := beq_toListBytes U Z
          generalize (U == Z) = G at *
          rcases G with _ | _
          · have hN : (!U.toList == Z.toList) = true := by rw [← hG2]; rfl
            have HT3 : Hid (tk s at_ = .bad 4) := Lib.hid (by rw [HT.out]; rfl)
            clear HT hG2
            go_wp2_with fail
            all_goals first
              | (exfalso; simp_all; done)
              | (refine bodyPost_ret (v := tkV (.bad 4)) (by simp only [results, Try.results21, tkV, frV]; go_simp) rfl ⟨by rw [HT3.out], ?_⟩; (repeat (first | with_reducible exact Below.refl _ _ | with_reducible refine kp_alloc ?_ _ | with_reducible refine kp_drew ?_ | with_reducible refine kp_set ?_ (by first | omega | (simp; done) | (simp; omega)) _ | with_reducible refine kp_tr ?_ (by with_reducible assumption))))
          · have hN : (!U.toList == Z.toList) = false := by rw [← hG2]; rfl
            have HT3 : Hid (tk s at_ = .ok b Y F) := Lib.hid (by rw [HT.out]; simp)
            clear HT hG2
            go_wp2_with fail
            all_goals first
              | (exfalso; simp_all; done)
              | (refine bodyPost_ret (v := tkV (.ok b Y F)) (by simp only [results, Try.results21, tkV, frV]; go_simp) rfl ⟨by rw [HT3.out], ?_⟩; (repeat (first | with_reducible exact Below.refl _ _ | with_reducible refine kp_alloc ?_ _ | with_reducible refine kp_drew ?_ | with_reducible refine kp_set ?_ (by first | omega | (simp; done) | (simp; omega)) _ | with_reducible refine kp_tr ?_ (by with_reducible assumption))))
        · have HR : Hid (tk s at_ = .bad 2) := Lib.hid (by rw [HT.out, hrd]; simp only; rw [if_neg hP])
          clear hrd
          have hb1 : at_ + 1 + k ≤ s.size := by omega
          go_enter (Go.Proofs.Ytgfgoflhmikalaa.par.lfun21 (H := HC)), Try.ntmps21
          go_wp2_with fail
          all_goals (try simp only [beq_iff_eq, beq_eq_false_iff_ne, ne_eq] at *)
          all_goals first | (exfalso; omega) | skip
          refine (HQ.out _ hs (by omega)).mono ?_; rintro e ww ⟨rfl, rfl⟩
          unfold takeV
          generalize hBd : at_ + 1 + k = Bd at *
          go_wp2_with fail
          all_goals (try simp only [beq_iff_eq, beq_eq_false_iff_ne, ne_eq] at *)
          all_goals first | (exfalso; omega) | ((try simp only [Exit.inBlock, Exit.then]); refine bodyPost_ret (v := tkV (.bad 2)) (by simp only [results, Try.results21, tkV, frV]; go_simp) rfl ⟨by rw [HR.out], ?_⟩; (repeat (first | with_reducible exact Below.refl _ _ | with_reducible refine kp_alloc ?_ _ | with_reducible refine kp_drew ?_ | with_reducible refine kp_set ?_ (by first | omega | (simp; done) | (simp; omega)) _ | with_reducible refine kp_tr ?_ (by with_reducible assumption))))
      · have HR : Hid (tk s at_ = .bad 2) := Lib.hid (by rw [HT.out, hrd])
        clear hok hrd
        go_enter (Go.Proofs.Ytgfgoflhmikalaa.par.lfun21 (H := HC)), Try.ntmps21
        go_wp2_with fail
        all_goals (try simp only [beq_iff_eq, beq_eq_false_iff_ne, ne_eq] at *)
        all_goals first | (exfalso; omega) | skip
        refine (HQ.out _ hs (by omega)).mono ?_; rintro e ww ⟨rfl, rfl⟩
        unfold takeV
        go_wp2_with fail
        ((try simp only [Exit.inBlock, Exit.then]); refine bodyPost_ret (v := tkV (.bad 2)) (by simp only [results, Try.results21, tkV, frV]; go_simp) rfl ⟨by rw [HR.out], ?_⟩; (repeat (first | with_reducible exact Below.refl _ _ | with_reducible refine kp_alloc ?_ _ | with_reducible refine kp_drew ?_ | with_reducible refine kp_set ?_ (by first | omega | (simp; done) | (simp; omega)) _ | with_reducible refine kp_tr ?_ (by with_reducible assumption))))
      · have HR : Hid (tk s at_ = .bad 3) := Lib.hid (by rw [HT.out, hrd])
        clear hok hrd
        go_enter (Go.Proofs.Ytgfgoflhmikalaa.par.lfun21 (H := HC)), Try.ntmps21
        go_wp2_with fail
        all_goals (try simp only [beq_iff_eq, beq_eq_false_iff_ne, ne_eq] at *)
        all_goals first | (exfalso; omega) | skip
        refine (HQ.out _ hs (by omega)).mono ?_; rintro e ww ⟨rfl, rfl⟩
        unfold takeV
        go_wp2_with fail
        ((try simp only [Exit.inBlock, Exit.then]); refine bodyPost_ret (v := tkV (.bad 3)) (by simp only [results, Try.results21, tkV, frV]; go_simp) rfl ⟨by rw [HR.out], ?_⟩; (repeat (first | with_reducible exact Below.refl _ _ | with_reducible refine kp_alloc ?_ _ | with_reducible refine kp_drew ?_ | with_reducible refine kp_set ?_ (by first | omega | (simp; done) | (simp; omega)) _ | with_reducible refine kp_tr ?_ (by with_reducible assumption))))
  · have HR : Hid (tk s at_ = .bad 2) := Lib.hid (by
      rw [HT.out]; unfold rd
      rw [List.drop_eq_nil_of_le (by rw [bytesN_len]; omega)])
    go_enter (Go.Proofs.Ytgfgoflhmikalaa.par.lfun21 (H := HC)), Try.ntmps21
    go_wp2_with fail
    all_goals (try simp only [beq_iff_eq, beq_eq_false_iff_ne, ne_eq] at *)
    all_goals first | (exfalso; omega) | ((try simp only [Exit.inBlock, Exit.then]); refine bodyPost_ret (v := tkV (.bad 2)) (by simp only [results, Try.results21, tkV, frV]; go_simp) rfl ⟨by rw [HR.out], ?_⟩; (repeat (first | with_reducible exact Below.refl _ _ | with_reducible refine kp_alloc ?_ _ | with_reducible refine kp_drew ?_ | with_reducible refine kp_set ?_ (by first | omega | (simp; done) | (simp; omega)) _ | with_reducible refine kp_tr ?_ (by with_reducible assumption))))
theorem dtake_neg (s : ByteArray) (at_ : Int) (w : World) (ha : at_ < 0) :
    Calls (Go.Proofs.Ytgfgoflhmikalaa.par.loneP HC) 21 #[.string s, .int .i64 at_] w fun e w' => e = .returned (tkV (.bad 1)) ∧ Below w.heap.size w w' := by
  go_enter (Go.Proofs.Ytgfgoflhmikalaa.par.lfun21 (H := HC)), Try.ntmps21
  go_wp2_with fail
  refine bodyPost_ret (v := tkV (.bad 1)) (by simp only [results, Try.results21, tkV, frV]; go_simp) rfl ⟨rfl, ?_⟩
  (repeat (first | with_reducible exact Below.refl _ _ | with_reducible refine kp_alloc ?_ _ | with_reducible refine kp_drew ?_ | with_reducible refine kp_set ?_ (by first | omega | (simp; done) | (simp; omega)) _ | with_reducible refine kp_tr ?_ (by with_reducible assumption)))
end Go.Proofs.Ytgfgoflhmikalaa.fr

namespace Go.Proofs.Ytgfgoflhmikalaa.fr
open Go Go.RowKit Go.Proofs.Ytgfgoflhmikalaa.cm Go.Proofs.Ytgfgoflhmikalaa.cw Go.Proofs.Ytgfgoflhmikalaa.ga Go.Proofs.Ytgfgoflhmikalaa.gr Go.Proofs.Ytgfgoflhmikalaa.lw Go.Proofs.Ytgfgoflhmikalaa.fl
set_option linter.unusedVariables false
set_option linter.unusedSimpArgs false
variable {HC : Code}
attribute [local irreducible] Go.Proofs.Ytgfgoflhmikalaa.par.loneP
/-- What is read from some place on; frame by frame. -/
def allF (s : ByteArray) (p : Nat) : List GFr × Int :=
  if (cutsW (bytesN s) p).1.all (fun c => gbE s (cI3 c)) then (if (cutsW (bytesN s) p).2 = 0 then ((cutsW (bytesN s) p).1.map (frOf s), 0) else ([], (cutsW (bytesN s) p).2)) else ([], 4)
def comb (fs : List GFr) (r : List GFr × Int) : List GFr × Int := if r.2 = 0 then (fs ++ r.1, 0) else ([], r.2)
theorem allF_0 (s : ByteArray) : allR s = allF s 0 := rfl
theorem allF_end {s : ByteArray} {p : Nat} (h : ¬ p < s.size) : allF s p = ([], 0) := by
  unfold allF
  rw [cutsW_end (by rw [bytesN_len]; exact h)]
  rfl
theorem allF_err (s : ByteArray) (p : Nat) : (allF s p).2 = 0 ∨ (allF s p).1 = [] := by
  unfold allF
  split
  · split
    · exact .inl rfl
    · exact .inr rfl
  · exact .inr rfl
theorem comb_nil (s : ByteArray) (p : Nat) : comb [] (allF s p) = allF s p := by
  unfold comb
  rcases allF_err s p with h | h
  · rw [if_pos h, List.nil_append]; exact Prod.ext rfl h.symm
  · split
    · rename_i h2; rw [List.nil_append]; exact Prod.ext rfl h2.symm
    · exact Prod.ext h.symm rfl
theorem comb_comb (a b : List GFr) (r : List GFr × Int) : comb a (comb b r) = comb (a ++ b) r := by
  unfold comb
  by_cases h : r.2 = 0
  · simp [h]
  · simp [h]
theorem tk_ok {s : ByteArray} {p id n : Nat} {body : ByteArray} (h : tk s p = .ok id body n) (hp : p < s.size) : p < n ∧ n ≤ s.size ∧ allF s p = comb [((id : Int), body)] (allF s n) := by
  unfold tk at h
  split at h
  · cases h
  · rename_i a b m hr
    split at h
    · rename_i hg
      cases h
      obtain ⟨rfl, h1, h2, h3, h4⟩ := rd_ok hr
      rw [bytesN_len] at h4
      refine ⟨by omega, h4, ?_⟩
      unfold allF comb
      rw [cutsW_ok (by rw [bytesN_len]; exact hp) hr]
      simp only [List.all_cons, hg, Bool.true_and, List.map_cons]
      by_cases ha : (cutsW (bytesN s) (m + 4)).1.all (fun c => gbE s (cI3 c)) = true
      · rw [if_pos ha]
        by_cases h0 : (cutsW (bytesN s) (m + 4)).2 = 0
        · simp only [ha, h0, if_true]; rfl
        · simp only [ha, h0, if_true, if_false]
      · rw [if_neg ha]
        simp [ha]
    · cases h
theorem tk_bad {s : ByteArray} {p : Nat} {e : Int} (h : tk s p = .bad e) (hp : p < s.size) : e ≠ 0 ∧ allF s p = ([], e) := by
  unfold tk at h
  split at h
  · rename_i e' hr
    cases h
    have he := rd_bad hr
    refine ⟨by omega, ?_⟩
    unfold allF
    rw [cutsW_bad (by rw [bytesN_len]; exact hp) hr]
    simp
    omega
  · rename_i a b m hr
    split at h
    · cases h
    · rename_i hg
      cases h
      refine ⟨by omega, ?_⟩
      unfold allF
      rw [cutsW_ok (by rw [bytesN_len]; exact hp) hr]
      simp [hg]
set_option maxRecDepth 100000 in
set_option maxHeartbeats 8000000 in
theorem dall_any (s : ByteArray) (w : World) (hs : s.size < 10000000000) :
    Calls (Go.Proofs.Ytgfgoflhmikalaa.par.loneP HC) 17 #[.string s] w fun e w' => ∃ v, e = .returned (.tuple #[v, .int .i64 (allR s).2]) ∧ RIn 2 encF w' v (allR s).1 ∧ Below w.heap.size w w' := by
  have HA := Lib.hid (allF_0 s)
  go_enter (Go.Proofs.Ytgfgoflhmikalaa.par.lfun17 (H := HC)), Try.ntmps17
  go_wp2_with fail
  go_loopw [4, 5] (fun lv at_ wr => ∃ (fs : List GFr) (p : Nat), p ≤ s.size ∧ at_ = .int .i64 p ∧ fs.length ≤ p ∧ Hid (allR s = comb fs (allF s p)) ∧ Hid (OwnR 27 2 encF wr w.heap.size lv fs) ∧ Hid (Below w.heap.size w wr)) (fun _ at_ _ => s.size - (intOf at_).toNat)
  case atStart => exact ⟨[], 0, Nat.zero_le _, rfl, Nat.zero_le _, Lib.hid (by rw [HA.out, comb_nil]), Lib.hid (OwnR.nil _ _), Lib.hid (Below.refl _ _)⟩
  case round =>
    clear HA
    obtain ⟨fs, p, hp, rfl, hl, HC1, ho, hb⟩ := hrel
    by_cases hlp : p < s.size
    · have HT := Lib.hid (dtake_any (HC := HC) s p)
      have hok := fun id body n => @tk_ok s p id n body
      have hbad := fun e => @tk_bad s p e
      generalize tk s p = R at *
      rcases R with ⟨id, body, n⟩ | e
      · obtain ⟨q1, q2, q3⟩ := hok id body n rfl hlp
        have HN : Hid (allR s = comb (fs ++ [((id : Int), body)]) (allF s n)) := Lib.hid (by rw [HC1.out, q3, comb_comb])
        clear hok hbad q3 HC1
        go_wp2_with fail
        refine (HT.out _ (by omega) (by omega)).mono ?_; rintro e' w1 ⟨rfl, k1⟩
        simp only [tkV, frV]
        have HO1 : Hid (OwnR 27 2 encF w1 w.heap.size u4 fs) := Lib.hid (ho.out.tr k1)
        have HB1 : Hid (Below w.heap.size w w1) := Lib.hid (kp_tr hb.out k1)
        clear k1 ho hb
        go_wp2_with (at_builtin; refine app_frame _ rfl _ _ rfl w.heap.size _ _ fs ((id : Int), body) rfl rfl ?d0 ?d1 ?d2 ?d3 ?d4)
        case d0 => exact HO1.out.tr (by (repeat (first | with_reducible exact Below.refl _ _ | with_reducible refine kp_alloc ?_ _ | with_reducible refine kp_drew ?_ | with_reducible refine kp_set ?_ (by first | omega | (simp; done) | (simp; omega)) _ | with_reducible refine kp_tr ?_ (by with_reducible assumption))))
        case d1 => refine one_g _ ((id : Int), body) _ rfl _ ?_; try simp
        case d2 => omega
        case d3 => have := HB1.out.size; simp; omega
        case d4 =>
        intro v' w4 ho4 hg hat
        have H2 : Hid (OwnR 27 2 encF w4 w.heap.size v' (fs ++ [((id : Int), body)])) := Lib.hid ho4
        have H3 : Hid (Below w.heap.size w w4) := Lib.hid (gr_below hg (b_alloc (b_alloc HB1.out (Nat.le_refl _) _) (Nat.le_refl _) _) (Nat.le_refl _) HO1.out.block)
        clear ho4 hg hat HO1 HB1
        go_wp2_with fail
        exact ⟨⟨fs ++ [((id : Int), body)], n, q2, rfl, by simp; omega, HN, H2, H3⟩, by simp [intOf]; omega⟩
      · obtain ⟨he, q3⟩ := hbad e rfl hlp
        have HR : Hid (allR s = ([], e)) := Lib.hid (by rw [HC1.out, q3]; unfold comb; rw [if_neg he])
        clear hok hbad q3 HC1
        have he0 : ¬ e = 0 := he
        clear he
        go_wp2_with fail
        refine (HT.out _ (by omega) (by omega)).mono ?_; rintro e' w1 ⟨rfl, k1⟩
        simp only [tkV, frV]
        have HB1 : Hid (Below w.heap.size w w1) := Lib.hid (kp_tr hb.out k1)
        clear k1 ho hb
        go_wp2_with fail
        go_ret2
        exact ⟨_, by rw [HR.out]; rfl, by rw [HR.out]; exact RIn.nil, by have := HB1.out; (repeat (first | with_reducible exact Below.refl _ _ | with_reducible refine kp_alloc ?_ _ | with_reducible refine kp_drew ?_ | with_reducible refine kp_set ?_ (by first | omega | (simp; done) | (simp; omega)) _ | with_reducible refine kp_tr ?_ (by with_reducible assumption)))⟩
    · obtain rfl : p = s.size := by omega
      have HR : Hid (allR s = (fs, 0)) := Lib.hid (by rw [HC1.out, allF_end (by omega)]; unfold comb; simp)
      go_wp2_with fail
      go_ret2
      exact ⟨_, by rw [HR.out]; rfl, by rw [HR.out]; exact ho.out.sees (fun _ => rfl), hb.out⟩
end Go.Proofs.Ytgfgoflhmikalaa.fr

namespace Go.Proofs.Ytgfgoflhmikalaa.fr
open Go Go.RowKit Go.Proofs.Ytgfgoflhmikalaa.cm Go.Proofs.Ytgfgoflhmikalaa.cw Go.Proofs.Ytgfgoflhmikalaa.ga Go.Proofs.Ytgfgoflhmikalaa.gr Go.Proofs.Ytgfgoflhmikalaa.lw Go.Proofs.Ytgfgoflhmikalaa.fl
set_option linter.unusedVariables false
set_option linter.unusedSimpArgs false
variable {HC : Code}
attribute [local irreducible] Go.Proofs.Ytgfgoflhmikalaa.par.loneP
/-- What Put says of any number and body. -/
def putR (id : Int) (body : ByteArray) : ByteArray × Int := if 1 ≤ id ∧ id ≤ 127 then (frameS id.toNat body, 0) else (⟨#[]⟩, 1)
theorem fput_gen (id : Int) (body : ByteArray) (w : World) (hs : body.size < 100000000000) :
    Calls (Go.Proofs.Ytgfgoflhmikalaa.par.loneP HC) 13 #[.int .i64 id, .string body] w fun e w' => e = .returned (.tuple #[.string (putR id body).1, .int .i64 (putR id body).2]) ∧ Below w.heap.size w w' := by
  by_cases h : 1 ≤ id ∧ id ≤ 127
  · obtain ⟨n, rfl⟩ := Int.eq_ofNat_of_zero_le (show 0 ≤ id by omega)
    have hp : putR (n : Int) body = (frameS n body, 0) := by unfold putR; rw [if_pos h]; rfl
    rw [hp]
    exact fput_any n body w (by omega) (by omega) hs
  · have hp : putR id body = (⟨#[]⟩, 1) := by unfold putR; rw [if_neg h]
    rw [hp]
    exact fput_bad id body w (by omega)
theorem dput_gen (id : Int) (body : ByteArray) (w : World) (hs : body.size < 100000000000) :
    Calls (Go.Proofs.Ytgfgoflhmikalaa.par.loneP HC) 14 #[.int .i64 id, .string body] w fun e w' => e = .returned (.tuple #[.string (putR id body).1, .int .i64 (putR id body).2]) ∧ Below w.heap.size w w' := by
  by_cases h : 1 ≤ id ∧ id ≤ 127
  · obtain ⟨n, rfl⟩ := Int.eq_ofNat_of_zero_le (show 0 ≤ id by omega)
    have hp : putR (n : Int) body = (frameS n body, 0) := by unfold putR; rw [if_pos h]; rfl
    rw [hp]
    exact dput_any n body w (by omega) (by omega) hs
  · have hp : putR id body = (⟨#[]⟩, 1) := by unfold putR; rw [if_neg h]
    rw [hp]
    exact dput_bad id body w (by omega)
/-- Take at any place. -/
def tkA (s : ByteArray) (at_ : Int) : TK := if at_ < 0 then .bad 1 else tk s at_.toNat
theorem tk_far {s : ByteArray} {p : Nat} (h : s.size ≤ p) : tk s p = .bad 2 := by
  unfold tk rd
  rw [List.drop_eq_nil_of_le (by rw [bytesN_len]; omega)]
theorem read_far (s : ByteArray) (at_ : Nat) (w : World) (h : s.size ≤ at_) :
    Calls (Go.Proofs.Ytgfgoflhmikalaa.par.loneP HC) 31 #[.string s, .int .i64 at_] w fun e w' => e = .returned (rdV (.bad 2)) ∧ Below w.heap.size w w' := by
  have i1 : (s.size : Int) ≤ (at_ : Int) := by omega
  go_enter (Go.Proofs.Ytgfgoflhmikalaa.par.lfun31 (H := HC)), Try.ntmps31
  go_wp2_with fail
  (try simp only [Exit.inBlock, Exit.then])
  refine bodyPost_ret (v := rdV (.bad 2)) ((results_cell_tmp rfl _ _ _).trans ?_) rfl ?_
  · simp [go_sem, rdV]
  · exact ⟨rfl, by (repeat (first | with_reducible exact Below.refl _ _ | with_reducible refine kp_alloc ?_ _ | with_reducible refine kp_drew ?_ | with_reducible refine kp_set ?_ (by first | omega | (simp; done) | (simp; omega)) _ | with_reducible refine kp_tr ?_ (by with_reducible assumption)))⟩
theorem ftake_far (s : ByteArray) (at_ : Nat) (w : World) (ha : s.size ≤ at_) :
    Calls (Go.Proofs.Ytgfgoflhmikalaa.par.loneP HC) 20 #[.string s, .int .i64 at_] w fun e w' => e = .returned (tkV (.bad 2)) ∧ Below w.heap.size w w' := by
  go_enter (Go.Proofs.Ytgfgoflhmikalaa.par.lfun20 (H := HC)), Try.ntmps20
  go_wp2_with fail
  have K0 := Blk.new w #[.int .i64 0, .string ⟨#[]⟩] 27
  refine (read_far s at_ _ ha).mono ?_; rintro e' w1 ⟨rfl, k1⟩
  unfold rdV
  replace K0 := K0.tr k1
  obtain ⟨l0, c0, f0⟩ := K0.get
  have e0 : w1.cell? ⟨w.heap.size, 0, none⟩ = some (.int .i64 0) := c0 0
  have e1 : w1.cell? ⟨w.heap.size, 1, none⟩ = some (.string ⟨#[]⟩) := c0 1
  have g0 := f0 0
  have g1 := f0 1
  have hb1 : Below w.heap.size w w1 := by (repeat (first | with_reducible exact Below.refl _ _ | with_reducible refine kp_alloc ?_ _ | with_reducible refine kp_drew ?_ | with_reducible refine kp_set ?_ (by first | omega | (simp; done) | (simp; omega)) _ | with_reducible refine kp_tr ?_ (by with_reducible assumption)))
  clear k1 K0 c0 f0
  go_wp2_with fail
  refine bodyPost_ret (v := tkV (.bad 2)) (by simp only [results, Try.results20, tkV, frV]; go_simp) rfl ⟨rfl, ?_⟩
  (repeat (first | with_reducible exact Below.refl _ _ | with_reducible refine kp_alloc ?_ _ | with_reducible refine kp_drew ?_ | with_reducible refine kp_set ?_ (by first | omega | (simp; done) | (simp; omega)) _ | with_reducible refine kp_tr ?_ (by with_reducible assumption)))
theorem ftake_int (hEq : HC = par.Hm) (s : ByteArray) (at_ : Int) (w : World) (hs : s.size < 1000000000000) (h2 : at_ < 9223372036854775808) :
    Calls (Go.Proofs.Ytgfgoflhmikalaa.par.loneP HC) 20 #[.string s, .int .i64 at_] w fun e w' => e = .returned (tkV (tkA s at_)) ∧ Below w.heap.size w w' := by
  by_cases h : at_ < 0
  · have e : tkA s at_ = .bad 1 := by unfold tkA; rw [if_pos h]
    rw [e]
    exact ftake_neg s at_ w h
  · obtain ⟨n, rfl⟩ := Int.eq_ofNat_of_zero_le (show 0 ≤ at_ by omega)
    have e : tkA s (n : Int) = tk s n := by unfold tkA; rw [if_neg h]; rfl
    rw [e]
    by_cases hn : n < 1000000000000000
    · exact ftake_any hEq s n w hs hn
    · rw [tk_far (by omega)]
      exact ftake_far s n w (by omega)
theorem dtake_int (s : ByteArray) (at_ : Int) (w : World) (hs : s.size < 1000000000000) (h2 : at_ < 9223372036854775808) :
    Calls (Go.Proofs.Ytgfgoflhmikalaa.par.loneP HC) 21 #[.string s, .int .i64 at_] w fun e w' => e = .returned (tkV (tkA s at_)) ∧ Below w.heap.size w w' := by
  by_cases h : at_ < 0
  · have e : tkA s at_ = .bad 1 := by unfold tkA; rw [if_pos h]
    rw [e]
    exact dtake_neg s at_ w h
  · obtain ⟨n, rfl⟩ := Int.eq_ofNat_of_zero_le (show 0 ≤ at_ by omega)
    have e : tkA s (n : Int) = tk s n := by unfold tkA; rw [if_neg h]; rfl
    rw [e]
    exact dtake_any s n w hs (by omega)
/-- A TK's parts. -/
theorem tkV_form (t : TK) : ∃ (id : Int) (body : ByteArray) (n e : Int), tkV t = .tuple #[.agg #[.int .i64 id, .string body], .int .i64 n, .int .i64 e] := by
  cases t
  · exact ⟨_, _, _, _, rfl⟩
  · exact ⟨_, _, _, _, rfl⟩
theorem many_g {α : Type} {k : Nat} {en : α → List Value} (hk : ∀ x : α, (en x).length = k) (w : World) (l : List α) (cs : Array Value) (hc : cs.toList = l.flatMap en) (T' : TypeId) {m n : Nat} (hm : m = w.heap.size) (hn : n = l.length) (hl : l.length < 1000000) : RIn k en (w.alloc (.cells cs T')) (.slice (some ⟨m, 0, none⟩) n n) l := by
  subst hm hn
  refine RIn.mk (ad := some ⟨w.heap.size, 0, none⟩) (b := w.heap.size) (off := 0) (cap := l.length) rfl (fun _ => rfl) (fun e => by cases e) (Nat.le_refl _) (by omega) (fun _ => by simp) (fun i j x' y' hx hy => ?_)
  have h := flat_get (hk := hk) l i j x' y' hx hy
  rw [← hc] at h
  have : cs[i * k + j]? = some y' := by rw [← h]; simp
  simp [this]
/-- The raw frames of the law. -/
def oddR (l : List GFr) : List GFr := (l.take 4).map (fun f => (f.1, cutB f.2 40))
theorem oddR_len (l : List GFr) : (oddR l).length = min 4 l.length := by simp [oddR]
theorem oddR_snoc (l : List GFr) {k : Nat} (h1 : k < l.length) (h2 : k < 4) : (oddR l).take (k + 1) = (oddR l).take k ++ [((l.getD k (0, ⟨#[]⟩)).1, cutB (l.getD k (0, ⟨#[]⟩)).2 40)] := by
  rw [List.take_add_one]
  congr 1
  simp [oddR, List.getElem?_take, h1, h2, List.getD]
theorem oddR_ok {l : List GFr} (h : ∀ x ∈ l, (-9223372036854775808 ≤ x.1 ∧ x.1 < 9223372036854775808) ∧ x.2.size ≤ maxLen) : ∀ f ∈ oddR l, (-9223372036854775808 ≤ f.1 ∧ f.1 < 9223372036854775808) ∧ f.2.size ≤ 40 := by
  intro f hf
  obtain ⟨p, hp, rfl⟩ := List.mem_map.1 hf
  exact ⟨(h p (List.mem_of_mem_take hp)).1, cutB_le _ _⟩
theorem joinR_size {fs : List GFr} (h : ∀ f ∈ fs, f.2.size ≤ 40) (hl : fs.length ≤ 8) : (joinR fs).1.size ≤ 440 := by
  unfold joinR
  split
  · have := jB_size_le h (by omega)
    have h2 : (jB fs).size = (⟨(joinU fs).toArray⟩ : ByteArray).size := rfl
    have h3 : fs.length * (40 + 15) ≤ 8 * (40 + 15) := Nat.mul_le_mul_right _ hl
    dsimp only
    omega
  · exact Nat.zero_le _
end Go.Proofs.Ytgfgoflhmikalaa.fr

namespace Go.Proofs.Ytgfgoflhmikalaa.fr
open Go Go.RowKit Go.Proofs.Ytgfgoflhmikalaa.cm Go.Proofs.Ytgfgoflhmikalaa.cw Go.Proofs.Ytgfgoflhmikalaa.ga Go.Proofs.Ytgfgoflhmikalaa.gr Go.Proofs.Ytgfgoflhmikalaa.lw Go.Proofs.Ytgfgoflhmikalaa.fl
set_option linter.unusedVariables false
set_option linter.unusedSimpArgs false
variable {HC : Code}
attribute [local irreducible] Go.Proofs.Ytgfgoflhmikalaa.par.loneP
/-- A list's value, and what it holds. -/
def enP (p : Value × List GFr) : List Value := [p.1]
theorem str_eq (A : ByteArray) : (A.toList == A.toList) = true := by simp
theorem us_row (w6 : World) (a b c d : ByteArray) : RIn 1 enS (w6.alloc (.cells #[.string a, .string b, .string c, .string d] 9)) (.slice (some ⟨w6.heap.size, 0, none⟩) 4 4) [a, b, c, d] :=
  many_g (α := ByteArray) (k := 1) (en := enS) (fun _ => rfl) w6 [a, b, c, d] #[.string a, .string b, .string c, .string d] rfl _ rfl rfl (by simp)
theorem us_size {a b c d : ByteArray} {n : Nat} (ha : a.size ≤ n) (hb : b.size ≤ n) (hc : c.size ≤ n) (hd : d.size ≤ n) : ∀ u ∈ [a, b, c, d], u.size ≤ n := fun u hu => by
  simp only [List.mem_cons, List.not_mem_nil, or_false] at hu
  rcases hu with rfl | rfl | rfl | rfl <;> assumption
theorem us_bel {w w' : World} {T : TypeId} {xs : Array Value} (h : Below w.heap.size w w') : Below w.heap.size w (w'.alloc (.cells xs T)) := b_alloc h (Nat.le_refl _) _
set_option maxRecDepth 100000 in
set_option maxHeartbeats 16000000 in
theorem tells_walk (hEq : HC = par.Hm) (v0 : Value) (fs0 : List GFr) (v1 : Value) (is : List Int) (v2 : Value) (bs : List ByteArray) (s : ByteArray) (which x at_ : Int) (w : World)
    (h0 : RIn 2 encF w v0 fs0) (hf0 : ∀ x ∈ fs0, (-9223372036854775808 ≤ x.1 ∧ x.1 < 9223372036854775808) ∧ x.2.size ≤ maxLen)
    (h1 : RIn 1 enI w v1 is) (hi : ∀ x ∈ is, -9223372036854775808 ≤ x ∧ x < 9223372036854775808) (h2 : RIn 1 enS w v2 bs) (hb : ∀ s ∈ bs, s.size ≤ maxLen) (hs : s.size ≤ maxLen)
    (hw : -9223372036854775808 ≤ which ∧ which < 9223372036854775808) (hx : -9223372036854775808 ≤ x ∧ x < 9223372036854775808) (ha : -9223372036854775808 ≤ at_ ∧ at_ < 9223372036854775808) :
    Calls (Go.Proofs.Ytgfgoflhmikalaa.par.loneP HC) 3 #[v0, v1, v2, .string s, .int .i64 which, .int .i64 x, .int .i64 at_] w fun e w' => e = .returned (.bool true) ∧ Below w.heap.size w w' := by
  have HAW := Lib.hid (fun W => awake_any hEq W)
  have HL := Lib.hid (fun W h0 h1 => list_any (HC := HC) v1 v2 is bs W h0 h1 hi hb)
  have HFP := Lib.hid (fun id body W h => fput_gen (HC := HC) id body W h)
  have HDP := Lib.hid (fun id body W h => dput_gen (HC := HC) id body W h)
  have HJ := Lib.hid (fun v fs W h h2 h3 h4 => join_any (HC := HC) v fs W h h2 h3 h4)
  have HDJ := Lib.hid (fun v fs W h h2 h3 h4 => djoin_any (HC := HC) v fs W h h2 h3 h4)
  have HAL := Lib.hid (fun u W h => all_any hEq u W h)
  have HDA := Lib.hid (fun u W h => dall_any (HC := HC) u W h)
  have HTK := Lib.hid (fun u i W h1 h2 => ftake_int hEq u i W h1 h2)
  have HDT := Lib.hid (fun u i W h1 h2 => dtake_int (HC := HC) u i W h1 h2)
  have HTU := Lib.hid (fun u W h => turned_any (HC := HC) u which x W h hw hx)
  have HPI := Lib.hid (fun n W h1 h2 => pick_ex (HC := HC) at_ n W h1 h2 ha.1 ha.2)
  have HSA := Lib.hid (fun v u xs W h1 h2 => same_any (HC := HC) v u xs xs W h1 h2)
  have hod := oddR_ok hf0
  have hodl : (oddR fs0).length ≤ 4 := by rw [oddR_len]; omega
  have HF0 := Lib.hid hf0
  have hlr := listR_len is bs
  have hok := fun f hf => (@listR_ok is bs f hf)
  have HO2 : Hid ((listR is bs).length ≤ 8 ∧ ∀ f ∈ listR is bs, (-9223372036854775808 ≤ f.1 ∧ f.1 < 9223372036854775808) ∧ f.2.size ≤ 40) := Lib.hid ⟨by omega, fun f hf => by
    obtain ⟨⟨q1, q2⟩, q3⟩ := hok f hf
    exact ⟨by omega, q3⟩⟩
  have HO1 : Hid ((oddR fs0).length ≤ 8 ∧ ∀ f ∈ oddR fs0, (-9223372036854775808 ≤ f.1 ∧ f.1 < 9223372036854775808) ∧ f.2.size ≤ 40) := Lib.hid ⟨by omega, hod⟩
  have HSN := Lib.hid (fun k h1 h2 => @oddR_snoc fs0 k h1 h2)
  have HOL := Lib.hid (oddR_len fs0)
  have H0 := Lib.hid h0
  have H1 := Lib.hid h1
  have H2 := Lib.hid h2
  clear hod hodl hlr hok hi hb h0 h1 h2 hf0 hw hx hEq
  generalize listR is bs = L2 at *
  generalize oddR fs0 = L1 at *
  unfold maxLen at hs
  have hA60 : (s.extract 0 (min s.size 60)).size ≤ 60 := by simp; omega
  generalize hm : min s.size 60 = m at *
  have hmm : min (s.size : Int) 60 = (m : Int) := by omega
  have hmi : (if (60 : Int) < (s.size : Int) then 60 else (s.size : Int)) = (m : Int) := by split <;> omega
  have hmle : (m : Int) ≤ (s.size : Int) := by omega
  clear hm
  go_enter (Go.Proofs.Ytgfgoflhmikalaa.par.lfun3 (H := HC)), Try.ntmps3
  go_wp2_with fail
  refine (HAW.out _).mono ?_; rintro e w1 ⟨rfl, k1⟩
  have hr0 := H0.out.tr k1
  obtain ⟨ad, b, off, cap, rfl, q1, q2, q3, q4, q5, hX⟩ := hr0.form
  have HX := Lib.hid hX
  have HK1 := Lib.hid k1
  clear hr0 hX H0 k1 HAW
  go_wp2_with fail
  go_loopw [16, 17] (fun l i wr => ∃ k : Nat, (k ≤ fs0.length ∧ k ≤ 4) ∧ i = .int .i64 k ∧ Hid (OwnR 27 2 encF wr w1.heap.size l (L1.take k)) ∧ Hid (Below w1.heap.size w1 wr)) (fun _ i _ => 4 - (intOf i).toNat)
  case atStart => exact ⟨0, by omega, rfl, Lib.hid (OwnR.nil _ _), Lib.hid (Below.refl _ _)⟩
  case round =>
    obtain ⟨k, ⟨hk1, hk2⟩, rfl, ho, hb⟩ := hrel
    by_cases hlk : k < fs0.length ∧ k < 4
    · obtain ⟨l1, l2⟩ := hlk
      obtain rfl := q1 (by omega)
      have hkx : fs0[k]? = some (fs0.getD k (0, ⟨#[]⟩)) := by simp [List.getD, l1]
      have x0 := HX.out.at hkx 0 _ rfl
      have x1 := HX.out.at hkx 1 _ rfl
      rw [Nat.add_zero] at x0
      obtain ⟨⟨i1, i2⟩, hsz⟩ := HF0.out _ (List.mem_of_getElem? hkx)
      unfold maxLen at hsz
      have hsn := Lib.hid (HSN.out k l1 l2)
      have hll : (L1.take k).length + 1 < 100000000000 := by simp; omega
      clear hkx
      generalize fs0.getD k (0, ⟨#[]⟩) = f at *
      obtain ⟨id, y⟩ := f
      dsimp only at *
      generalize L1.take k = done at *
      have hcb : Hid (cutB y 40 = y.extract 0 (min y.size 40)) := Lib.hid rfl
      generalize hm2 : min y.size 40 = m2 at *
      have hmm2 : min (y.size : Int) 40 = (m2 : Int) := by omega
      have hmi2 : (if (40 : Int) < (y.size : Int) then 40 else (y.size : Int)) = (m2 : Int) := by split <;> omega
      have hmle2 : (m2 : Int) ≤ (y.size : Int) := by omega
      clear hm2
      have HO0 : Hid (OwnR 27 2 encF wr w1.heap.size u16 done) := ho
      have HB0 : Hid (Below w1.heap.size w1 wr) := hb
      have hwz := hb.out.size
      have hB1 := hb.out
      clear ho hb
      go_wp2_with fail
      go_region_held3 (fun w' => w'.cell? ⟨b, off + k * 2, none⟩ = some (.int .i64 id) ∧ w'.cell? ⟨b, off + k * 2 + 1, none⟩ = some (.string y))
        ((refine s2_tr (W := w1) ?_ ⟨x0, x1⟩; (repeat (first | with_reducible exact Below.refl _ _ | with_reducible refine kp_alloc ?_ _ | with_reducible refine kp_drew ?_ | with_reducible refine kp_set ?_ (by first | omega | (simp; done) | (simp; omega)) _ | with_reducible refine kp_tr ?_ (by with_reducible assumption)))))
        (first
          | (refine step_frame ?_ (.tmp 57) (.tmp 77) ?_ w1.heap.size u16 (.slice (some ⟨wr.heap.size, 0, none⟩) 1 1) done (id, y.extract 0 m2) ?_ ?_ ?_ ?_ hll ?_ ?_; rfl; rfl; rfl; rfl; (refine HO0.out.tr ?_; (repeat (first | with_reducible exact Below.refl _ _ | with_reducible refine kp_alloc ?_ _ | with_reducible refine kp_drew ?_ | with_reducible refine kp_set ?_ (by first | omega | (simp; done) | (simp; omega)) _ | with_reducible refine kp_tr ?_ (by with_reducible assumption)))); (refine one_g wr.drew (id, y.extract 0 m2) _ rfl _ ?_; rfl); (refine Nat.le_trans hwz ?_; simp); intro v3 w2 ho2 hg2 hat2; have hb2 : Below w1.heap.size w1 w2 := gr_below hg2 (b_alloc (kp_drew hB1) (Nat.le_refl _) _) (Nat.le_refl _) HO0.out.block))
      all_goals
        have H2' : Hid (OwnR 27 2 encF w2 w1.heap.size v3 (L1.take (k + 1))) := Lib.hid (by rw [hsn.out, hcb.out]; exact ho2)
        have H3 := Lib.hid hb2
        clear ho2 hg2 hat2 hb2 HO0 HB0 hB1 hwz
        go_wp2_with fail
        exact ⟨⟨k + 1, ⟨by omega, by omega⟩, by go_num, H2', H3⟩, by simp [intOf]; omega⟩
    · have hkL : k = L1.length := by rw [HOL.out]; omega
      have ho2 := ho.out
      rw [hkL, List.take_length] at ho2
      have HB2 := hb
      have hv1 := ho2.sees (fun _ => rfl)
      clear ho ho2 hb hkL HX HSN HOL
      go_upto_region 4 with (fail)
      go_cut [54] (fun v wx => v = .bool false ∧ wx = wr)
      case first => as_aux_lemma =>
        go_wp2_with fail
        all_goals (try simp only [decide_eq_true_eq, decide_eq_false_iff_not] at *)
        all_goals first
          | (exfalso; omega)
          | (go_meet; first | exact ⟨rfl, rfl⟩ | exact ⟨congrArg Value.bool (decide_eq_false (by omega)), rfl⟩)
      case rest =>
      obtain ⟨rfl, hwc⟩ := hcut
      subst hwc
      go_wp2_with fail
      refine (HL.out _ (H1.out.tr (kp_tr HK1.out HB2.out)) (H2.out.tr (kp_tr HK1.out HB2.out))).mono ?_; rintro e w2 ⟨v3, rfl, ho3, k3⟩
      have hv2 := ho3.sees (fun _ => rfl)
      replace hv1 := hv1.tr k3
      have hb2 : Below w.heap.size w w2 := kp_tr (kp_tr HK1.out HB2.out) k3
      clear ho3 k3 HK1 HB2 H1 H2 HL
      obtain ⟨ad1, b1, off1, cap1, rfl, -, -, g13, g14, -, -⟩ := hv1.form
      obtain ⟨ad2, b2, off2, cap2, rfl, -, -, g23, g24, -, -⟩ := hv2.form
      go_wp2_with fail
      have hls : RIn 1 enP (w2.alloc (.cells #[.slice ad1 L1.length cap1, .slice ad2 L2.length cap2] 22)) (.slice (some ⟨w2.heap.size, 0, none⟩) 2 2) [(.slice ad1 L1.length cap1, L1), (.slice ad2 L2.length cap2, L2)] := many_g (α := Value × List GFr) (k := 1) (en := enP) (fun _ => rfl) w2 [(.slice ad1 L1.length cap1, L1), (.slice ad2 L2.length cap2, L2)] #[.slice ad1 L1.length cap1, .slice ad2 L2.length cap2] rfl _ rfl rfl (by simp)
      have hb4 : Below w.heap.size w (w2.alloc (.cells #[.slice ad1 L1.length cap1, .slice ad2 L2.length cap2] 22)) := by (repeat (first | with_reducible exact Below.refl _ _ | with_reducible refine kp_alloc ?_ _ | with_reducible refine kp_drew ?_ | with_reducible refine kp_set ?_ (by first | omega | (simp; done) | (simp; omega)) _ | with_reducible refine kp_tr ?_ (by with_reducible assumption)))
      have hin : ∀ p ∈ [(Value.slice ad1 L1.length cap1, L1), (Value.slice ad2 L2.length cap2, L2)], RIn 2 encF (w2.alloc (.cells #[.slice ad1 L1.length cap1, .slice ad2 L2.length cap2] 22)) p.1 p.2 ∧ (p.2.length ≤ 8 ∧ ∀ f ∈ p.2, (-9223372036854775808 ≤ f.1 ∧ f.1 < 9223372036854775808) ∧ f.2.size ≤ 40) := fun p hp => by
        have hk := kp_alloc (Below.refl w2.heap.size w2) (.cells #[.slice ad1 L1.length cap1, .slice ad2 L2.length cap2] 22)
        simp at hp
        rcases hp with rfl | rfl
        · exact ⟨hv1.tr hk, HO1.out⟩
        · exact ⟨hv2.tr hk, HO2.out⟩
      have hln : [(Value.slice ad1 L1.length cap1, L1), (Value.slice ad2 L2.length cap2, L2)].length = 2 := rfl
      have HV2 := Lib.hid (hv2.tr (kp_alloc (Below.refl w2.heap.size w2) (.cells #[.slice ad1 L1.length cap1, .slice ad2 L2.length cap2] 22)))
      generalize [(Value.slice ad1 L1.length cap1, L1), (Value.slice ad2 L2.length cap2, L2)] = ls at *
      generalize w2.alloc (.cells #[.slice ad1 L1.length cap1, .slice ad2 L2.length cap2] 22) = W4 at *
      have HLS := Lib.hid hls
      have HB4 := Lib.hid hb4
      have HIN := Lib.hid hin
      clear hls hb4 hin hb2 hv1 hv2 HO1
      generalize w2.heap.size = n4 at *
      go_wp2_with fail
      go_loopw [86] (fun i wr => ∃ j : Nat, j ≤ 2 ∧ i = .int .i64 j ∧ Hid (Below W4.heap.size W4 wr)) (fun i _ => 2 - (intOf i).toNat)
      case atStart => exact ⟨0, by omega, rfl, Lib.hid (Below.refl _ _)⟩
      case round =>
        obtain ⟨j, hj, rfl, hb⟩ := hrel
        by_cases hlj : j < 2
        · have hx : ls[j]? = some (ls.getD j (.bool false, [])) := by simp [List.getD, hln, hlj]
          have x0 := cell_tr hb.out (HLS.out.at hx 0 _ rfl)
          rw [Nat.add_zero, Nat.mul_one, Nat.zero_add] at x0
          obtain ⟨hr, hll, hfs⟩ := HIN.out _ (List.mem_of_getElem? hx)
          clear hx
          generalize ls.getD j (.bool false, []) = p at *
          obtain ⟨pv, fs⟩ := p
          dsimp only at *
          replace hr := hr.tr hb.out
          obtain ⟨ad, b, off, cap, rfl, r1, r2, r3, r4, r5, hX⟩ := hr.form
          have HX := Lib.hid hX
          have HR := Lib.hid hr
          have HFS := Lib.hid hfs
          have HJ1 := Lib.hid (fun W h => HJ.out (.slice ad fs.length cap) fs W h (by omega) (fun f hf => by have := (HFS.out f hf).2; omega) (fun f hf => (HFS.out f hf).1))
          have HJ2 := Lib.hid (fun W h => HDJ.out (.slice ad fs.length cap) fs W h (by omega) (fun f hf => by have := (HFS.out f hf).2; omega) (fun f hf => (HFS.out f hf).1))
          clear hX hr hfs r2
          generalize joinR fs = jr at *
          obtain ⟨JA, JE⟩ := jr
          dsimp only at *
          go_wp2_with fail
          refine (HJ1.out _ HR.out).mono ?_; rintro e w5 ⟨rfl, k5⟩
          have HR5 := Lib.hid (HR.out.tr k5)
          have HK5 := Lib.hid k5
          clear k5 HJ1
          go_wp2_with fail
          refine (HJ2.out _ HR5.out).mono ?_; rintro e w6 ⟨rfl, k6⟩
          have HK6 := Lib.hid (kp_tr HK5.out k6)
          clear k6 HJ2 HK5 HR5
          go_wp2_with fail
          generalize wr = W5 at *
          go_loopw [25] (fun i wr => ∃ k : Nat, k ≤ fs.length ∧ i = .int .i64 k ∧ Hid (Below W5.heap.size W5 wr)) (fun i _ => fs.length - (intOf i).toNat)
          case atStart => exact ⟨0, Nat.zero_le _, rfl, HK6⟩
          case round =>
            obtain ⟨k, hk, rfl, hbk⟩ := hrel
            by_cases hlk : k < fs.length
            · obtain rfl := r1 (by omega)
              have hx : fs[k]? = some (fs.getD k (0, ⟨#[]⟩)) := by simp [List.getD, hlk]
              have x1 := cell_tr hbk.out (HX.out.at hx 0 _ rfl)
              have x2 := cell_tr hbk.out (HX.out.at hx 1 _ rfl)
              rw [Nat.add_zero] at x1
              have hfi := HFS.out _ (List.mem_of_getElem? hx)
              clear hx
              generalize fs.getD k (0, ⟨#[]⟩) = f at *
              obtain ⟨id, body⟩ := f
              dsimp only at *
              obtain ⟨⟨i1, i2⟩, i3⟩ := hfi
              have HP1 := Lib.hid (fun W => HFP.out id body W (by omega))
              have HP2 := Lib.hid (fun W => HDP.out id body W (by omega))
              generalize putR id body = pr at *
              obtain ⟨PA, PE⟩ := pr
              dsimp only at *
              go_wp2_with fail
              go_region_held3 (fun w' => w'.cell? ⟨b, off + k * 2, none⟩ = some (.int .i64 id) ∧ w'.cell? ⟨b, off + k * 2 + 1, none⟩ = some (.string body))
                ((refine s2_tr (W := wr) ?_ ⟨x1, x2⟩; (repeat (first | with_reducible exact Below.refl _ _ | with_reducible refine kp_alloc ?_ _ | with_reducible refine kp_drew ?_ | with_reducible refine kp_set ?_ (by first | omega | (simp; done) | (simp; omega)) _ | with_reducible refine kp_tr ?_ (by with_reducible assumption)))))
                (first
                  | (go_at_call 13; refine (HP1.out _).mono ?_; rintro e w7 ⟨rfl, k7⟩))
              have HK7 := Lib.hid (kp_tr hbk.out (by (repeat (first | with_reducible exact Below.refl _ _ | with_reducible refine kp_alloc ?_ _ | with_reducible refine kp_drew ?_ | with_reducible refine kp_set ?_ (by first | omega | (simp; done) | (simp; omega)) _ | with_reducible refine kp_tr ?_ (by with_reducible assumption))) : Below wr.heap.size wr w7))
              have y1 := cell_tr (by (repeat (first | with_reducible exact Below.refl _ _ | with_reducible refine kp_alloc ?_ _ | with_reducible refine kp_drew ?_ | with_reducible refine kp_set ?_ (by first | omega | (simp; done) | (simp; omega)) _ | with_reducible refine kp_tr ?_ (by with_reducible assumption))) : Below wr.heap.size wr w7) x1
              have y2 := cell_tr (by (repeat (first | with_reducible exact Below.refl _ _ | with_reducible refine kp_alloc ?_ _ | with_reducible refine kp_drew ?_ | with_reducible refine kp_set ?_ (by first | omega | (simp; done) | (simp; omega)) _ | with_reducible refine kp_tr ?_ (by with_reducible assumption))) : Below wr.heap.size wr w7) x2
              clear k7 HP1 x1 x2 hbk
              go_wp2_with fail
              go_region_held3 (fun w' => w'.cell? ⟨b, off + k * 2, none⟩ = some (.int .i64 id) ∧ w'.cell? ⟨b, off + k * 2 + 1, none⟩ = some (.string body))
                ((refine s2_tr (W := w7) ?_ ⟨y1, y2⟩; (repeat (first | with_reducible exact Below.refl _ _ | with_reducible refine kp_alloc ?_ _ | with_reducible refine kp_drew ?_ | with_reducible refine kp_set ?_ (by first | omega | (simp; done) | (simp; omega)) _ | with_reducible refine kp_tr ?_ (by with_reducible assumption)))))
                (first
                  | (go_at_call 14; refine (HP2.out _).mono ?_; rintro e w8 ⟨rfl, k8⟩))
              have HK8 := Lib.hid (kp_tr HK7.out (by (repeat (first | with_reducible exact Below.refl _ _ | with_reducible refine kp_alloc ?_ _ | with_reducible refine kp_drew ?_ | with_reducible refine kp_set ?_ (by first | omega | (simp; done) | (simp; omega)) _ | with_reducible refine kp_tr ?_ (by with_reducible assumption))) : Below w7.heap.size w7 w8))
              clear k8 HP2 HK7 y1 y2
              go_wp2_with fail
              exact ⟨⟨k + 1, by omega, by go_num, HK8⟩, by simp [intOf]; omega⟩
            · obtain rfl : k = fs.length := by omega
              have HB5 := Lib.hid (kp_tr hb.out hbk.out)
              clear hbk hb
              go_wp2_with fail
              exact ⟨⟨j + 1, by omega, by go_num, HB5⟩, by simp [intOf]; omega⟩
        · obtain rfl : j = 2 := by omega
          have HR2 := Lib.hid (HV2.out.tr hb.out)
          have HB5 := Lib.hid (kp_tr HB4.out hb.out)
          have HJ2 := Lib.hid (fun W h => HDJ.out (.slice ad2 L2.length cap2) L2 W h (by have := HO2.out.1; omega) (fun f hf => by have := (HO2.out.2 f hf).2; omega) (fun f hf => (HO2.out.2 f hf).1))
          have hjs := joinR_size (fun f hf => (HO2.out.2 f hf).2) HO2.out.1
          clear hb HV2 HB4 HO2 HIN HLS HJ HDJ HFP HDP
          generalize joinR L2 = jr at *
          obtain ⟨T, JE⟩ := jr
          dsimp only at *
          have HT := Lib.hid (fun W => HTU.out T W (by omega))
          have ad1 := add_run (HC := HC) T (s.extract 0 m) (by omega)
          go_wp2_with fail
          refine (HJ2.out _ HR2.out).mono ?_; rintro e w5 ⟨rfl, k5⟩
          have HB6 := Lib.hid (kp_tr HB5.out k5)
          clear k5 HJ2 HR2 HB5 HTU
          have hTs : (T ++ s.extract 0 m).size ≤ 2000 := by simp; omega
          go_upto_region 24 with (fail)
          go_cut [173, 174, 175] (fun v n i wx => ∃ g us, v = .slice (some ⟨g, 0, none⟩) 4 4 ∧ n = .int .i64 4 ∧ i = .int .i64 0 ∧ RIn 1 enS wx v us ∧ us.length = 4 ∧ (∀ u ∈ us, u.size ≤ 2000) ∧ Below w5.heap.size w5 wx)
          case first => as_aux_lemma =>
            clear HAL HDA HTK HDT HPI HSA HB6
            go_wp2_with fail
            go_region_held3 (fun w' => True) (trivial)
              (first
                | (go_at_call 15; refine (HT.out _).mono ?_; rintro e w6 ⟨⟨r, hr, rfl⟩, k6⟩))
            all_goals
              first | go_meet | (go_wp2_with fail; go_meet)
              exact ⟨w6.heap.size, _, rfl, rfl, rfl, us_row w6 _ _ _ _, rfl, us_size (by omega) (by omega) (by omega) hTs, us_bel (by (repeat (first | with_reducible exact Below.refl _ _ | with_reducible refine kp_alloc ?_ _ | with_reducible refine kp_drew ?_ | with_reducible refine kp_set ?_ (by first | omega | (simp; done) | (simp; omega)) _ | with_reducible refine kp_tr ?_ (by with_reducible assumption))))⟩
          case rest =>
          obtain ⟨n6, us, rfl, rfl, rfl, hus, hln2, hsz, hk6⟩ := hcut
          obtain ⟨W6, hX6⟩ : ∃ y, y = wc := ⟨_, rfl⟩
          subst hX6
          have HU := Lib.hid hus
          have HB7 := Lib.hid (kp_tr HB6.out hk6)
          have HSZ := Lib.hid hsz
          clear hus hsz hk6 HB6 HT hA60 hmm hmi hmle hs hjs ad1
          go_wp2_with fail
          go_loopw [175] (fun i wr => ∃ j : Nat, j ≤ 4 ∧ i = .int .i64 j ∧ Hid (Below W6.heap.size W6 wr)) (fun i _ => 4 - (intOf i).toNat)
          case atStart => exact ⟨0, by omega, rfl, Lib.hid (Below.refl _ _)⟩
          case round =>
            obtain ⟨j, hj, rfl, hb⟩ := hrel
            by_cases hlj : j < 4
            · have hx : us[j]? = some (us.getD j ⟨#[]⟩) := by simp [List.getD, hln2, hlj]
              have x0 := cell_tr hb.out (HU.out.at hx 0 _ rfl)
              rw [Nat.add_zero, Nat.mul_one, Nat.zero_add] at x0
              have hul := HSZ.out _ (List.mem_of_getElem? hx)
              clear hx
              generalize us.getD j ⟨#[]⟩ = u at *
              have HA1 := Lib.hid (fun W => HAL.out u W (by omega))
              have HA2 := Lib.hid (fun W => HDA.out u W (by omega))
              generalize allR u = ar at *
              obtain ⟨al, ae⟩ := ar
              dsimp only at *
              go_wp2_with fail
              refine (HA1.out _).mono ?_; rintro e w7 ⟨v7, rfl, hv7, k7⟩
              have HV7 := Lib.hid hv7
              have HK7 := Lib.hid (kp_tr hb.out k7)
              clear hv7 k7 HA1 hb
              go_wp2_with fail
              refine (HA2.out _).mono ?_; rintro e w8 ⟨v8, rfl, hv8, k8⟩
              have HV8 := Lib.hid (HV7.out.tr k8)
              have HV9 := Lib.hid hv8
              have HK8 := Lib.hid (kp_tr HK7.out k8)
              clear hv8 k8 HA2 HV7 HK7
              go_wp2_with fail
              refine (HSA.out _ _ al _ HV8.out HV9.out).mono ?_; rintro e w9 ⟨rfl, k9⟩
              (try simp only [decide_true])
              have HK9 := Lib.hid (kp_tr HK8.out k9)
              clear k9 HV8 HV9 HK8
              have HPI2 := Lib.hid (fun W => HPI.out ((u.size : Int) + 2) W (by omega) (by omega))
              go_wp2_with fail
              refine (HPI2.out _).mono ?_; rintro e w10 ⟨⟨pk, hpk, rfl⟩, rfl⟩
              have hpk2 : (pk : Int) < 9223372036854775808 := by omega
              clear HPI2 hpk
              go_wp2_with fail
              have his : RIn 1 enI (w9.alloc (.cells #[.int .i64 at_, .int .i64 (pk : Int)] 3)) (.slice (some ⟨w9.heap.size, 0, none⟩) 2 2) [at_, (pk : Int)] := many_g (α := Int) (k := 1) (en := enI) (fun _ => rfl) w9 [at_, (pk : Int)] #[.int .i64 at_, .int .i64 (pk : Int)] rfl _ rfl rfl (by simp)
              have hib : ∀ i ∈ [at_, (pk : Int)], -9223372036854775808 ≤ i ∧ i < 9223372036854775808 := fun i hi => by
                simp only [List.mem_cons, List.not_mem_nil, or_false] at hi
                rcases hi with rfl | rfl <;> omega
              have hln3 : [at_, (pk : Int)].length = 2 := rfl
              have HK10 := Lib.hid (kp_alloc HK9.out (.cells #[.int .i64 at_, .int .i64 (pk : Int)] 3))
              generalize [at_, (pk : Int)] = il at *
              generalize w9.alloc (.cells #[.int .i64 at_, .int .i64 (pk : Int)] 3) = W9 at *
              have HI := Lib.hid his
              have HIB := Lib.hid hib
              clear his hib HK9 x0 hpk2
              generalize w9.heap.size = n9 at *
              generalize wr = W7 at *
              go_wp2_with fail
              go_loopw [206] (fun i wr => ∃ q : Nat, q ≤ 2 ∧ i = .int .i64 q ∧ Hid (Below W9.heap.size W9 wr)) (fun i _ => 2 - (intOf i).toNat)
              case atStart => exact ⟨0, by omega, rfl, Lib.hid (Below.refl _ _)⟩
              case round =>
                obtain ⟨q, hq, rfl, hbq⟩ := hrel
                by_cases hlq : q < 2
                · have hx : il[q]? = some (il.getD q 0) := by simp [List.getD, hln3, hlq]
                  have x0 := cell_tr hbq.out (HI.out.at hx 0 _ rfl)
                  rw [Nat.add_zero, Nat.mul_one, Nat.zero_add] at x0
                  have hii := HIB.out _ (List.mem_of_getElem? hx)
                  clear hx
                  generalize il.getD q 0 = iq at *
                  have HT1 := Lib.hid (fun W => HTK.out u iq W (by omega) hii.2)
                  have HT2 := Lib.hid (fun W => HDT.out u iq W (by omega) hii.2)
                  generalize tkA u iq = tv at *
                  obtain ⟨id, body, nx, er, ht⟩ := tkV_form tv
                  rw [ht] at HT1 HT2
                  clear ht hii
                  go_wp2_with fail
                  refine (HT1.out _).mono ?_; rintro e w11 ⟨rfl, k11⟩
                  have HK11 := Lib.hid (kp_tr hbq.out k11)
                  clear k11 HT1 hbq x0
                  go_wp2_with fail
                  have K11 := Blk.new w11 #[.int .i64 id, .string body] 27
                  have HK12 := Lib.hid (kp_alloc HK11.out (.cells #[.int .i64 id, .string body] 27))
                  refine (HT2.out _).mono ?_; rintro e w12 ⟨rfl, k12⟩
                  replace K11 := K11.tr k12
                  obtain ⟨lb, cb, fb⟩ := K11.get
                  have y0 : w12.cell? ⟨w11.heap.size, 0, none⟩ = some (.int .i64 id) := cb 0
                  have y1 : w12.cell? ⟨w11.heap.size, 1, none⟩ = some (.string body) := cb 1
                  have HK13 := Lib.hid (kp_tr HK12.out k12)
                  have hfe : ∀ w', Sem.run (Go.Proofs.Ytgfgoflhmikalaa.par.loneP HC) (Op.equalIn 10000 27 (.agg #[.int .i64 id, .string body]) (.agg #[.int .i64 id, .string body])) w' = .ok true w' := fun w' => by rw [feq0, fbeq]; simp
                  clear k12 K11 cb fb HT2 HK11 HK12
                  generalize w11.heap.size = n11 at *
                  go_wp2_with fail
                  exact ⟨⟨q + 1, by omega, by go_num, Lib.hid (kp_alloc HK13.out _)⟩, by simp [intOf]; omega⟩
                · obtain rfl : q = 2 := by omega
                  have HB9 := Lib.hid (kp_tr HK10.out hbq.out)
                  clear hbq HK10 HI
                  go_wp2_with fail
                  exact ⟨⟨j + 1, by omega, by go_num, HB9⟩, by simp [intOf]; omega⟩
            · obtain rfl : j = 4 := by omega
              have HB8 := Lib.hid (kp_tr HB7.out hb.out)
              clear hb HB7 HU
              go_wp2_with fail
              go_ret
              exact ⟨rfl, HB8.out⟩
end Go.Proofs.Ytgfgoflhmikalaa.fr

namespace Go.Proofs.Ytgfgoflhmikalaa.framesTellsLaw
open Go.Proofs.Ytgfgoflhmikalaa Go.Proofs.Ytgfgoflhmikalaa.par
open Go Go.ChangeShapes Go.WideShapes Go.ChangeAt Go.RowKit Go.Joins Go.Conc Go.ConcM
open Go.ChangeMaps (open_string shut_string)
set_option linter.unusedVariables false
set_option linter.unusedSimpArgs false
attribute [local irreducible] Go.Proofs.Ytgfgoflhmikalaa.par.loneP
theorem own : ownKnob Try.prog.godebug = none := by kernel_rfl
theorem laidOut : laidOutB Try.prog = true := by kernel_rfl
theorem nospec : ¬ Sp 3 := by unfold Sp; decide
theorem bothLaw : Both (loneF Hm) Try.prog.funcs 3 := ⟨_, _, _, _, (lone_funcs (H := Hm)) ▸ lfun3 (H := Hm), Try.func3, rfl, rfl⟩

set_option maxRecDepth 100000 in
theorem lifted (os : Os) (started : os.Started) (H : Type) (enc : TypeId × Value → H) (SF : Stop.Interp) :
    ReturnsInLeavingWide Rows.framesTellsRow.assume Try.checked os 3 .any (Rows.framesTellsSpec.pre6 enc Try.prog Try.f3 Rows.framesTellsRow.domain false) ((OpenSpec.ofChange Rows.framesTellsSpec).postWith enc Try.prog Try.f3 SF (outsideKept [.timePasses]) false true false) := by
  refine returnsInLeavingWide_of_change_time (C := Try.checked) own started Try.func3
    (ChangeSpec.witness6c (enc := enc) (C := Try.checked) ⟨#[], #[.slice none 0 0, .slice none 0 0, .slice none 0 0, .string ByteArray.empty, .int .i64 0, .int .i64 0, .int .i64 0], []⟩ 8 (by kernel_rfl) (by kernel_rfl) (by kernel_rfl) (by kernel_rfl)) ?_
  intro W base args ds gs before hval0 hW _ _ _
  have hval : ∀ (j : Nat) t v, Try.f3.params[j]? = some t → args[j]? = some v → Value.okWide Try.prog W .any base t v := hval0
  have hW' := hW
  obtain ⟨p, q, hA0, hV, rfl, hfz, hnd⟩ := hW
  have hA : DataW.TrodAll enc Try.prog W 0 (fun _ => true) true Try.f3.params.toList args.toList ds p := hA0
  rw [Try.params3] at hA hval
  obtain ⟨v0, vs0, d0, ds0, p0, q0', hargs, rfl, rfl, h0, r0⟩ := trodAll_cons hA
  obtain ⟨v1, vs1, d1, ds1, p1, q1', rfl, rfl, rfl, h1, r1⟩ := trodAll_cons r0
  obtain ⟨v2, vs2, d2, ds2, p2, q2', rfl, rfl, rfl, h2, r2⟩ := trodAll_cons r1
  obtain ⟨v3, vs3, d3, ds3, p3, q3', rfl, rfl, rfl, h3, r3⟩ := trodAll_cons r2
  obtain ⟨v4, vs4, d4, ds4, p4, q4', rfl, rfl, rfl, h4, r4⟩ := trodAll_cons r3
  obtain ⟨v5, vs5, d5, ds5, p5, q5', rfl, rfl, rfl, h5, r5⟩ := trodAll_cons r4
  obtain ⟨v6, vs6, d6, ds6, p6, q6', rfl, rfl, rfl, h6, r6⟩ := trodAll_cons r5
  obtain ⟨rfl, rfl, rfl⟩ := trodAll_nil r6
  obtain rfl : args = #[v0, v1, v2, v3, v4, v5, v6] := by cases args; simp_all
  obtain ⟨rfl, rfl⟩ := trodVars_none hV
  have k0 := h0
  have lt0 : ∀ x ∈ p0, x.block < W.heap.size := by obtain ⟨m, hm⟩ := k0; exact DataW.trod_lt m _ _ _ hm
  have k1 := h1
  have lt1 : ∀ x ∈ p1, x.block < W.heap.size := by obtain ⟨m, hm⟩ := k1; exact DataW.trod_lt m _ _ _ hm
  have k2 := h2
  have lt2 : ∀ x ∈ p2, x.block < W.heap.size := by obtain ⟨m, hm⟩ := k2; exact DataW.trod_lt m _ _ _ hm
  have k3 := h3
  have lt3 : ∀ x ∈ p3, x.block < W.heap.size := by obtain ⟨m, hm⟩ := k3; exact DataW.trod_lt m _ _ _ hm
  have k4 := h4
  have lt4 : ∀ x ∈ p4, x.block < W.heap.size := by obtain ⟨m, hm⟩ := k4; exact DataW.trod_lt m _ _ _ hm
  have k5 := h5
  have lt5 : ∀ x ∈ p5, x.block < W.heap.size := by obtain ⟨m, hm⟩ := k5; exact DataW.trod_lt m _ _ _ hm
  have k6 := h6
  have lt6 : ∀ x ∈ p6, x.block < W.heap.size := by obtain ⟨m, hm⟩ := k6; exact DataW.trod_lt m _ _ _ hm
  have q0 := lw.vr_slice Try.underlying22 (hval 0 22 v0 rfl rfl)
  have q1 := lw.vr_slice Try.underlying23 (hval 1 23 v1 rfl rfl)
  have q2 := lw.vr_slice Try.underlying24 (hval 2 24 v2 rfl rfl)
  have q3 := lw.vr_str Try.underlying9 (hval 3 9 v3 rfl rfl)
  have q4 := lw.vr_int Try.underlying3 (hval 4 3 v4 rfl rfl)
  have q5 := lw.vr_int Try.underlying3 (hval 5 3 v5 rfl rfl)
  have q6 := lw.vr_int Try.underlying3 (hval 6 3 v6 rfl rfl)
  have hvr := lw.vrs_of (W := W) (args := #[v0, v1, v2, v3, v4, v5, v6]) (fun v hv => by simp at hv; rcases hv with rfl | rfl | rfl | rfl | rfl | rfl | rfl <;> assumption)
  clear q0 q1 q2 q3 q4 q5 q6
  obtain ⟨a0, w0, x0⟩ := fr.frames_arg (hval 0 22 v0 rfl rfl) h0
  obtain ⟨a1, w1, x1⟩ := lw.ints_arg Try.underlying23 Try.underlying3 (by kernel_rfl) (hval 1 23 v1 rfl rfl) h1
  obtain ⟨a2, w2, x2⟩ := lw.strs_arg Try.underlying24 Try.underlying9 (by kernel_rfl) (hval 2 24 v2 rfl rfl) h2
  obtain ⟨a3, rfl, rfl, rfl, w3⟩ := open_string Try.underlying9 (hval 3 9 v3 rfl rfl) h3
  obtain ⟨a4, rfl, rfl, rfl, w4⟩ := open_int Try.underlying3 (hval 4 3 v4 rfl rfl) h4
  obtain ⟨a5, rfl, rfl, rfl, w5⟩ := open_int Try.underlying3 (hval 5 3 v5 rfl rfl) h5
  obtain ⟨a6, rfl, rfl, rfl, w6⟩ := open_int Try.underlying3 (hval 6 3 v6 rfl rfl) h6
  clear hA0 hval0
  obtain ⟨M, last, o, w', t', r1, r2, r3, v, e, ⟨rfl, bel⟩, g1, g2, g3, g4⟩ := main_law Try.func3 Try.results3 (lfun3 (H := Hm)) Try.results3 (by kernel_rfl) nospec bothLaw (Nat.zero_le _) hvr hold_ok hold_one (fun τ => by
    have h := fr.tells_walk (HC := Hm) rfl v0 a0 v1 a1 v2 a2 a3 a4 a5 a6 (tp (cleanW W) τ) (lw.clean_rin w0 fr.encF_clv τ) x0 (lw.clean_rin w1 lw.enI_clv τ) x1 (lw.clean_rin w2 lw.enS_clv τ) x2 w3 (wfb_i64 w4) (wfb_i64 w5) (wfb_i64 w6)
    have e : (tp (cleanW W) τ).heap.size = W.heap.size := clean_size W
    rw [e] at h
    exact h)
  refine ⟨M, last, o, w', t', r1, r2, r3, _, e, ⟨?_, by rw [bel.os]; exact OsLater.refl _⟩, g1, g2, g3, g4⟩
  have bel2 : Below W.heap.size W { w' with os := W.os } := ⟨rfl, bel.tape, bel.output, bel.size, bel.block⟩
  exact ⟨_, _, _, [], _, [], hW', trodAll_mk1 (shut_bool Try.underlying4 _), (trodAll_cons_mk (Below.trod laidOut (by kernel_rfl) (of_decide_eq_true (by kernel_rfl)) k0 bel2 lt0) (trodAll_cons_mk (Below.trod laidOut (by kernel_rfl) (of_decide_eq_true (by kernel_rfl)) k1 bel2 lt1) (trodAll_cons_mk (Below.trod laidOut (by kernel_rfl) (of_decide_eq_true (by kernel_rfl)) k2 bel2 lt2) (trodAll_cons_mk (Below.trod laidOut (by kernel_rfl) (of_decide_eq_true (by kernel_rfl)) k3 bel2 lt3) (trodAll_cons_mk (Below.trod laidOut (by kernel_rfl) (of_decide_eq_true (by kernel_rfl)) k4 bel2 lt4) (trodAll_cons_mk (Below.trod laidOut (by kernel_rfl) (of_decide_eq_true (by kernel_rfl)) k5 bel2 lt5) (trodAll_cons_mk (Below.trod laidOut (by kernel_rfl) (of_decide_eq_true (by kernel_rfl)) k6 bel2 lt6) trodAll_mk0))))))), rfl, bel2.frame _, fun h => by cases h⟩

theorem over : Rows.framesTellsRow.holds Try.pinned (OpenSpec.ofChange Rows.framesTellsSpec) :=
  OpenClaim.holds_of_wide_leaving_time 3 Try.f3 rfl rfl rfl rfl rfl rfl rfl ⟨rfl, rfl, rfl, rfl, rfl⟩ rfl rfl rfl rfl rfl (by kernel_rfl) Try.func3 (by kernel_rfl)
    (of_decide_eq_true (by kernel_rfl)) (by unfold Func.isWrapper; first | (rw [if_pos (by decide +kernel)]; kernel_rfl) | (rw [if_neg (by decide +kernel)]; exact ⟨rfl, rfl⟩))
    (fun os started H enc _ SF => lifted os started H enc SF)

theorem proved : Rows.FramesTellsSaid := over
end Go.Proofs.Ytgfgoflhmikalaa.framesTellsLaw
