/- varint.Row, varint.Put. LONE=1. No conditions. -/
import Derived.Test.YtpgjploaliefdaaGreatG03
import Derived.WalkMore
import Derived.Deep.RegionHeld3
namespace Go.Proofs.YtpgjploaliefdaaGreat.fr
open Go.RowKit cm cw
set_option linter.unusedVariables false
set_option linter.unusedSimpArgs false
def putN (v : Nat) : List Nat := if v < 128 then [v] else (v % 128 + 128) :: putN (v / 128)
termination_by v
decreasing_by omega
theorem putN_lo {v : Nat} (h : v < 128) : putN v = [v] := by rw [putN, if_pos h]
theorem putN_hi {v : Nat} (h : ¬ v < 128) : putN v = (v % 128 + 128) :: putN (v / 128) := by rw [putN, if_neg h]
theorem putN_len : ∀ (k v : Nat), v < 128 ^ (k + 1) → (putN v).length ≤ k + 1
 | 0, v, h => by rw [putN_lo (by simpa using h)]; simp
 | k + 1, v, h => by
  by_cases hv : v < 128
  ·rw [putN_lo hv]; simp
  ·rw [putN_hi hv]
   have := putN_len k (v / 128) (by rw [Nat.pow_succ] at h; omega)
   simp
   omega
theorem putN_pos (v : Nat) : 0 < (putN v).length := by
 by_cases hv : v < 128
 ·rw [putN_lo hv]; simp
 ·rw [putN_hi hv]; simp
theorem putN_10 {v : Nat} (h : v < 18446744073709551616) : (putN v).length ≤ 10 := putN_len 9 v (Nat.lt_of_lt_of_le h (by decide))
def rowN (xs : List Nat) : List Nat := xs.flatMap putN
theorem rowN_snoc (xs : List Nat) (k : Nat) (h : k < xs.length) : rowN (xs.take (k + 1)) = rowN (xs.take k) ++ putN (xs.getD k 0) := by
 unfold rowN
 rw [List.take_add_one, List.flatMap_append]
 simp [List.getD, h]
set_option maxRecDepth 100000 in
set_option maxHeartbeats 4000000 in
theorem row_any (b cap : Nat) (xs : List Nat) (w : World) (hc : ∀ i, i < xs.length → w.cell? ⟨b, i, none⟩ = some (.int .u64 ((xs.getD i 0 : Nat) : Int))) (hx : ∀ i, xs.getD i 0 < 18446744073709551616) (hl : xs.length < 1000000) (h0 : 0 < xs.length) :
  Calls Tryz.prog 46 #[.slice (some ⟨b, 0, none⟩) xs.length cap] w fun e w' => e = .returned (.string (strB (rowN xs))) ∧ Below w.heap.size w w' := by
 go_enter Tryz.func46, Tryz.ntmps46
 go_wp2_with fail
 go_loopw [3, 8] (fun bv i wr => ∃ k : Nat, k ≤ xs.length ∧ i = .int .i64 k ∧ Hid (OwnB wr w.heap.size bv (rowN (xs.take k))) ∧ Hid ((rowN (xs.take k)).length ≤ 10 * k) ∧ (0 < k → Hid (0 < (rowN (xs.take k)).length)) ∧ Hid (Below w.heap.size w wr)) (fun _ i _ => xs.length - (intOf i).toNat)
 case atStart => exact ⟨0, Nat.zero_le _, rfl, Lib.hid (OwnB.nil _ _), Lib.hid (by simp [rowN]), fun h => absurd h (by omega), Lib.hid (Below.refl _ _)⟩
 case round =>
  obtain ⟨k, hk, rfl, ho, hn, hp, hb⟩ := hrel
  by_cases hlk : k < xs.length
  ·have hcell := cell_tr hb.out (hc k hlk)
   have hxk := hx k
   have HS := Lib.hid (rowN_snoc xs k hlk)
   generalize xs.getD k 0 = X at *
   have H10 := Lib.hid (putN_10 hxk)
   have HPP := Lib.hid (putN_pos X)
   generalize rowN (xs.take k) = done at *
   go_wp2_with fail
   go_loopw [3, 5] (fun bv y ww => ∃ (v : Nat) (more : List Nat), v < 18446744073709551616 ∧ y = .int .u64 (v : Int) ∧ Hid (OwnB ww w.heap.size bv (done ++ more)) ∧ Hid (putN X = more ++ putN v) ∧ Hid (Below w.heap.size w ww)) (fun _ y _ => (intOf y).toNat)
   case atStart => exact ⟨X, [], hxk, rfl, Lib.hid (by simpa using ho.out), Lib.hid (by simp), hb⟩
   case round =>
    obtain ⟨v, more, hv, rfl, ho2, hm, hb2⟩ := hrel
    have HL : Hid ((done ++ more).length + 1 < 1000000000000) := Lib.hid (by
     have h1 := hn.out
     have h2 := H10.out
     have h3 := congrArg List.length hm.out
     simp at h3 ⊢
     omega)
    by_cases hlv : v < 128
    ·have HM2 : Hid (putN X = more ++ [v]) := Lib.hid (by rw [hm.out, putN_lo hlv])
     go_wp2_with (at_builtin; refine app_B _ rfl _ _ rfl w.heap.size _ (done ++ more) v _ 1 rfl rfl ?c0 ?c1 HL.out ?c3 ?c4)
     case c0 => exact ho2.out.tr (by exact bm)
     case c1 => simp [byteV]
     case c3 => have := hb2.out.size; simp; omega
     case c4 =>
     intro v' w2 ho3 hg hat
     have H2 : Hid (OwnB w2 w.heap.size v' (done ++ putN X)) := Lib.hid (by rw [HM2.out]; simpa using ho3)
     have H3 : Hid (Below w.heap.size w w2) := Lib.hid (grown_below hg (bel_alloc hb2.out (Nat.le_refl _) _) (Nat.le_refl _) ho2.out.block)
     clear ho3 hg hat
     go_wp2_with fail
     refine ⟨⟨k + 1, by omega, by go_num, Lib.hid (by rw [HS.out]; exact H2.out), Lib.hid ?_, fun _ => Lib.hid ?_, H3⟩, by simp [intOf]; omega⟩
     ·have h1 := hn.out
      have h2 := H10.out
      rw [HS.out]
      simp
      omega
     ·have h2 := HPP.out
      rw [HS.out]
      simp
      omega
    ·have HM2 : Hid (putN X = more ++ [v % 128 + 128] ++ putN (v / 128)) := Lib.hid (by rw [hm.out, putN_hi hlv]; simp)
     generalize hY : v % 128 + 128 = Y at HM2
     have HY := Lib.hid hY
     clear hY
     go_wp2_with (at_builtin; refine app_B _ rfl _ _ rfl w.heap.size _ (done ++ more) Y wr.heap.size 1 rfl rfl ?d0 ?d1 HL.out ?d3 ?d4)
     case d0 => exact ho2.out.tr (by exact bm)
     case d1 => have := HY.out; simp [byteV]; omega
     case d3 => have := hb2.out.size; simp; omega
     case d4 =>
     intro v' w2 ho3 hg hat
     have H2 : Hid (OwnB w2 w.heap.size v' (done ++ (more ++ [Y]))) := Lib.hid (by simpa using ho3)
     have H3 : Hid (Below w.heap.size w w2) := Lib.hid (grown_below hg (bel_alloc hb2.out (Nat.le_refl _) _) (Nat.le_refl _) ho2.out.block)
     clear ho3 hg hat
     go_wp2_with fail
     exact ⟨⟨v / 128, more ++ [Y], by omega, by first | rfl | go_num, H2, HM2, H3⟩, by simp [intOf]; omega⟩
  ·obtain rfl : k = xs.length := by omega
   rw [List.take_length] at ho hp
   have hs := ho.out.str  (hp (by omega)).out
   go_wp2_with fail
   go_ret
   exact ⟨rfl, hb.out⟩
theorem put_any (v : Nat) (w : World) (hv : v < 18446744073709551616) :
  Calls Tryz.prog 45 #[.int .u64 v] w fun e w' => e = .returned (.string (strB (putN v))) ∧ Below w.heap.size w w' := by
 go_enter Tryz.func45, Tryz.ntmps45
 go_wp2_with fail
 refine (row_any w.heap.size 1 [v] _ (fun i hi => ?_) (fun i => ?_) (by simp) (by simp)).mono ?_
 ·have : i = 0 := by simp at hi; exact hi
  subst this
  simp
 ·rcases i with _ | i
  ·exact hv
  ·simp
 rintro e w2 ⟨rfl, hb⟩
 have e1 : rowN [v] = putN v := by simp [rowN]
 rw [e1]
 have hB : Below w.heap.size w w2 := by exact bm
 clear hb
 go_wp2_with fail
 go_ret
 exact ⟨rfl, hB⟩
end Go.Proofs.YtpgjploaliefdaaGreat.fr
