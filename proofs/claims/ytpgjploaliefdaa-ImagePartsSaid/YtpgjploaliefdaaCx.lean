/- Contracts of layer 3's functions (crc), second part: More, Sum, Combine. No conditions. -/
import Derived.Test.YtpgjploaliefdaaCw
namespace Go.Proofs.Ytpgjploaliefdaa.cw
open Go.RowKit Go.Proofs.Ytpgjploaliefdaa.cm
set_option linter.unusedVariables false
set_option linter.unusedSimpArgs false
def takerZ : Array Value := #[.int .u32 0, .int .i32 0, .int .u32 0] ++ Array.replicate 256 (.int .u32 0)
theorem zero_taker (w : World) : Sem.run Try.prog (zeroValue 121) w = .ok (.agg takerZ) w := by kernel_rfl
theorem fresh_takerZ : Fresh takerZ := ⟨by kernel_rfl, by kernel_rfl, by kernel_rfl⟩
attribute [irreducible] takerZ
def bytesN (s : ByteArray) : List Nat := s.data.toList.map UInt8.toNat
theorem bytesN_len (s : ByteArray) : (bytesN s).length = s.size := by simp [bytesN]
theorem bytesN_lt (s : ByteArray) : ∀ b ∈ bytesN s, b < 256 := by
  intro b hb
  obtain ⟨x, _, rfl⟩ := List.mem_map.1 hb
  exact x.toNat_lt
theorem bytesN_snoc (s : ByteArray) (k : Nat) (h : k < s.size) : (bytesN s).take (k + 1) = (bytesN s).take k ++ [s[k].toNat] := by
  have hl : k < (bytesN s).length := by rw [bytesN_len]; exact h
  rw [List.take_succ_eq_append_getElem hl]
  congr 2
  simp [bytesN]; rfl
def MorePost (v : Int) (w : World) (e : Ending) (w' : World) : Prop := e = .returned (.int .u32 v) ∧ Below w.heap.size w w'
set_option maxRecDepth 100000 in
theorem more_any (c : Nat) (s : ByteArray) (w : World) (h : c < 4294967296) (hs : s.size ≤ maxLen) :
    Calls Try.prog 44 #[.int .u32 (c : Int), .string s] w (MorePost ((moreN c (bytesN s) : Nat) : Int) w) := by
  unfold maxLen at hs
  have hz := zero_taker 
  have hx := u32_xor_nat c 4294967295 h (by omega)
  rw [show ((4294967295 : Nat) : Int) = 4294967295 from rfl] at hx
  have hct : c ^^^ 4294967295 = c ^^^ top32 := by unfold top32; rfl
  rw [hct] at hx
  have hc0 : c ^^^ top32 < 4294967296 := xor32_lt h (by unfold top32; omega)
  have HM : Hid (moreN c (bytesN s) = feedN (c ^^^ top32) (bytesN s) ^^^ top32) := rfl
  generalize hg : c ^^^ top32 = c0 at hx hc0 HM
  clear hg hct
  have hend := u32_xor_nat (feedN c0 (bytesN s)) 4294967295 (feedN_lt _ hc0 (bytesN_lt s)) (by omega)
  rw [show ((4294967295 : Nat) : Int) = 4294967295 from rfl] at hend
  have HE := Lib.hid hend
  clear hend
  go_enter Try.func44, Try.ntmps44
  go_wp2_with fail
  go_loopw [0, 12] (fun v i wr => ∃ k : Nat, k ≤ s.size ∧ i = .int .i64 k ∧ v = .int .u32 ((feedN c0 ((bytesN s).take k) : Nat) : Int) ∧ Below w.heap.size w wr ∧ ∃ cs : Array Value, Blk wr w.heap.size cs 121 ∧ (Fresh cs ∨ Laid cs)) (fun _ i _ => s.size - (intOf i).toNat)
  case atStart => exact ⟨0, Nat.zero_le _, rfl, rfl, by (repeat (first | with_reducible exact Below.refl _ _ | with_reducible refine kp_alloc ?_ _ | with_reducible refine kp_drew ?_ | with_reducible refine kp_set ?_ (by first | omega | (simp; done) | (simp; omega)) _ | with_reducible refine kp_tr ?_ (by with_reducible assumption))), takerZ, Blk.new _ _ _, .inl fresh_takerZ⟩
  case round =>
    obtain ⟨k, hk, rfl, rfl, hb, cs, hB, hF⟩ := hrel
    have hfl : feedN c0 ((bytesN s).take k) < 4294967296 := feedN_lt _ hc0 (fun b hb => bytesN_lt s b (List.mem_of_mem_take hb))
    by_cases hlt : k < s.size
    · have HS : Hid (feedN c0 ((bytesN s).take (k + 1)) = upN (feedN c0 ((bytesN s).take k)) s[k].toNat) := by rw [bytesN_snoc s k hlt]; exact feedN_snoc _ _ _
      generalize hq : feedN c0 ((bytesN s).take k) = q at *
      clear hq
      go_wp2_with fail
      refine (up_any w.heap.size cs q _ _ hB hF hfl s[k].toNat_lt).mono ?_; rintro e w2 ⟨rfl, ho, hp⟩
      have HP := Lib.hid hp
      clear hp
      go_wp2_with fail
      obtain ⟨cs2, hB2, hL⟩ := HP.out
      exact ⟨⟨k + 1, by omega, by go_num, by rw [HS.out], ho.below hb (Nat.le_refl _), cs2, hB2, .inr hL⟩, by simp [intOf]; omega⟩
    · obtain rfl : k = s.size := by omega
      have ht : (bytesN s).take s.size = bytesN s := List.take_of_length_le (by rw [bytesN_len]; omega)
      rw [ht]
      have hE := HE.out
      go_wp2_with fail
      go_ret
      refine ⟨?_, hb⟩
      rw [HM.out]; unfold top32; rfl
theorem sum_any (s : ByteArray) (w : World) (hs : s.size ≤ maxLen) :
    Calls Try.prog 34 #[.string s] w (MorePost ((sumN (bytesN s) : Nat) : Int) w) := by
  go_enter Try.func34, Try.ntmps34
  go_wp2_with fail
  refine (more_any 0 s _ (by omega) hs).mono ?_; rintro e w2 ⟨rfl, hb⟩
  go_wp2_with fail
  go_ret
  exact ⟨rfl, hb⟩
end Go.Proofs.Ytpgjploaliefdaa.cw
