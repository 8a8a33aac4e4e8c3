/- frames.Put. LONE=1. No conditions. -/
import Derived.Test.YtpgjploaliefdaaGreatFf
import Derived.WalkMore
import Derived.Deep.RegionHeld3
import Derived.Deep.RegionWith
namespace Go.Proofs.YtpgjploaliefdaaGreat.fr
open Go.RowKit cm cw
set_option linter.unusedVariables false
set_option linter.unusedSimpArgs false
theorem strB_size (l : List Nat) : (strB l).size = l.length := by unfold strB; rw [strOfNums_size]; simp
def headS (id : Nat) (body : ByteArray) : ByteArray := strB [id] ++ strB (putN body.size) ++ body
def frameS (id : Nat) (body : ByteArray) : ByteArray := headS id body ++ halfS (sumN (bytesN (headS id body)))
theorem conv1 (b : Nat) (x : Nat) (W : World) (h : W.cell? ⟨b, 0, none⟩ = some (.int .u8 (x : Int))) :
  (convert 91 9 (.slice (some ⟨b, 0, none⟩) 1 1)).run Tryz.prog W = .ok (.string (strB [x])) W := by
 refine run_convert_bytes_arg (P := Tryz.prog) W 91 5 Tryz.underlying91 Tryz.underlying5 b 0 1 1 [(x : Int)] rfl (fun i hi => ?_) 9 Tryz.underlying9
 obtain rfl : i = 0 := by omega
 exact h
theorem add_run (A B : ByteArray) (h : A.size + B.size < 1000000000000) : ∀ w : World, (Op.stringOp .add A B).run Tryz.prog w = .ok (.string (A ++ B)) w := fun w => run_string_add_sum w A B (by omega)
set_option maxRecDepth 100000 in
set_option maxHeartbeats 4000000 in
theorem fput_any (id : Nat) (body : ByteArray) (w : World) (h1 : 1 ≤ id) (h2 : id ≤ 127) (hs : body.size < 100000000000) :
  Calls Tryz.prog 60 #[.int .i64 id, .string body] w fun e w' => e = .returned (.tuple #[.string (frameS id body), .int .i64 0]) ∧ Below w.heap.size w w' := by
 have hw8 : IntKind.u8.wrap (id : Int) = (id : Int) := wr_u8 _ (by omega)
 have hw64 : IntKind.u64.wrap (body.size : Int) = (body.size : Int) := wr_u64 _ (by omega)
 have hbig : ¬ 127 < (id : Int) := by omega
 have hcv : ∀ (n : Nat) (W' : World), W'.cell? ⟨n, 0, none⟩ = some (.int .u8 (id : Int)) → (convert 91 9 (.slice (some ⟨n, 0, none⟩) 1 1)).run Tryz.prog W' = .ok (.string (strB [id])) W' := fun n W' h => conv1 _ id _ h
 have hAs : (strB [id]).size = 1 := strB_size _
 have hBs : (strB (putN body.size)).size ≤ 10 := by rw [strB_size]; exact putN_10 (by omega)
 have HF : Hid (frameS id body = headS id body ++ halfS (sumN (bytesN (headS id body)))) := Lib.hid rfl
 have HH : Hid (headS id body = strB [id] ++ strB (putN body.size) ++ body) := Lib.hid rfl
 have HP := Lib.hid (put_any  body.size)
 generalize strB [id] = A at *
 generalize strB (putN body.size) = B at *
 have ad1 := add_run  A B (by omega)
 have ad2 := add_run  (A ++ B) body (by simp; omega)
 have hHs : (A ++ B ++ body).size ≤ maxLen := by unfold maxLen; simp; omega
 have hS := moreN_lt (bytesN (A ++ B ++ body)) (c := 0) (by omega) (bytesN_lt _)
 change sumN (bytesN (A ++ B ++ body)) < _ at hS
 generalize hX : sumN (bytesN (A ++ B ++ body)) = X at *
 have HX := Lib.hid hX
 have HZ := Lib.hid (putHalf_any  X)
 have hZs : (halfS X).size = 4 := by unfold halfS; rw [strB_size]; simp [le4]
 have HF2 : Hid (frameS id body = A ++ B ++ body ++ halfS X) := Lib.hid (by rw [HF.out, HH.out, hX])
 clear hX HF HH
 generalize halfS X = Z at *
 have ad3 := add_run  (A ++ B ++ body) Z (by simp; omega)
 go_enter Tryz.func60, Tryz.ntmps60
 go_wp2_with fail
 go_region_with
  (first
   | (go_at_call 45; refine (HP.out _ (by omega)).mono ?_; rintro e w1 ⟨rfl, k1⟩; obtain ⟨k1c, k1f⟩ := bcell k1; have k1z := k1.size))
 all_goals
  clear hcv HP ad1 ad2
  go_wp2_with fail
  refine (sum_any _ _ hHs).mono ?_
  rintro e w2 ⟨rfl, k2⟩
  rw [HX.out]
  go_wp2_with fail
  refine (HZ.out _ hS).mono ?_
  rintro e w3 ⟨rfl, k3⟩
  go_wp2_with fail
  go_ret2
  exact ⟨by rw [HF2.out]; rfl, by exact bm⟩
theorem fput_bad (id : Int) (body : ByteArray) (w : World) (h : id < 1 ∨ 127 < id) :
  Calls Tryz.prog 60 #[.int .i64 id, .string body] w fun e w' => e = .returned (.tuple #[.string ⟨#[]⟩, .int .i64 1]) ∧ Below w.heap.size w w' := by
 by_cases h1 : id < 1
 ·go_enter Tryz.func60, Tryz.ntmps60
  go_wp2_with fail
  all_goals first | (exfalso; omega) | (go_ret2; exact ⟨rfl, by exact bm⟩)
 ·have h2 : 127 < id := by omega
  have h3 : 1 ≤ id := by omega
  go_enter Tryz.func60, Tryz.ntmps60
  go_wp2_with fail
  all_goals first | (exfalso; omega) | (go_ret2; exact ⟨rfl, by exact bm⟩)
end Go.Proofs.YtpgjploaliefdaaGreat.fr
