/- words.Put; image.Refs. No conditions. -/
import Derived.Test.YtpgjploaliefdaaGreatFl
import Derived.Test.YtpgjploaliefdaaGreatG07
namespace Go.Proofs.YtpgjploaliefdaaGreat.im
open Go Go.RowKit cm cw ga gr ob hd
open fr (OwnB leB leB_succ leB_len strB app_B bel_alloc putN putN_10 putN_pos strB_size byteV)
set_option linter.unusedVariables false
set_option linter.unusedSimpArgs false
set_option maxRecDepth 100000
set_option maxHeartbeats 2000000
theorem lay64_any (v : Value) (xs : List Nat) (x B n : Nat) (w : World) (hn : n ≤ 8) (hx : x < 18446744073709551616) (hv : OwnB w B v xs) (hl : xs.length < 10000000) (hB : B ≤ w.heap.size) :
  Calls Tryz.prog 76 #[v, .int .u64 x, .int .i64 n] w fun e w' => ∃ v', e = .returned v' ∧ OwnB w' B v' (xs ++ leB n x) ∧ Below B w w' := by
 go_enter Tryz.func76, Tryz.ntmps76
 go_wp2_with fail
 go_loopw [0, 1, 8] (fun b y i wr => ∃ k : Nat, k ≤ n ∧ i = .int .i64 k ∧ y = .int .u64 ((x / 256 ^ k : Nat) : Int) ∧ Hid (OwnB wr B b (xs ++ leB k x)) ∧ Hid (Below B w wr)) (fun _ _ i _ => n - (intOf i).toNat)
 case atStart => exact ⟨0, Nat.zero_le _, rfl, by simp, Lib.hid (by simpa [leB] using hv), Lib.hid (Below.refl _ _)⟩
 case round =>
  obtain ⟨k, hk, rfl, rfl, ho, hb⟩ := hrel
  by_cases hlk : k < n
  ·have hq : x / 256 ^ k < 18446744073709551616 := Nat.lt_of_le_of_lt (Nat.div_le_self _ _) hx
   have hq2 := leB_succ k x
   have hq3 : x / 256 ^ (k + 1) = x / 256 ^ k / 256 := by rw [Nat.pow_succ, Nat.div_div_eq_div_mul]
   have HQ := Lib.hid hq2
   have HR := Lib.hid hq3
   clear hq2 hq3
   generalize x / 256 ^ k = q at *
   have hwr := hb.out.size
   go_wp2_with (at_builtin; refine app_B _ rfl _ _ rfl B u0 (xs ++ leB k x) (q % 256) wr.heap.size 1 rfl rfl ?c0 ?c1 ?c2 ?c3 ?c4)
   case c0 => exact ho.out.tr (by exact bm)
   case c1 => simp [byteV]
   case c2 => simp [leB_len]; omega
   case c3 => simp; omega
   case c4 =>
   intro v' w2 ho2 hg hat
   have H2 : Hid (OwnB w2 B v' (xs ++ leB (k + 1) x)) := Lib.hid (by rw [HQ.out]; simpa using ho2)
   have H3 : Hid (Below B w w2) := Lib.hid (fr.grown_below hg (bel_alloc hb.out hB _) hB ho.out.block)
   clear ho2 hg hat
   go_wp2_with fail
   refine ⟨⟨k + 1, by omega, by go_num, ?_, H2, H3⟩, by simp [intOf]; omega⟩
   rw [HR.out]
   rfl
  ·obtain rfl : k = n := by omega
   go_wp2_with fail
   go_ret
   exact ⟨_, rfl, ho.out, hb.out⟩
def wordsN (xs : List Int) : List Nat := xs.flatMap fun x => leB 8 x.toNat
theorem wordsN_snoc (xs : List Int) (k : Nat) (h : k < xs.length) : wordsN (xs.take (k + 1)) = wordsN (xs.take k) ++ leB 8 (xs.getD k 0).toNat := by
 unfold wordsN
 rw [List.take_add_one, List.getElem?_eq_getElem h, List.flatMap_append]
 congr 1
 simp [List.getD, h]
theorem wordsN_len (xs : List Int) : (wordsN xs).length = 8 * xs.length := by
 unfold wordsN
 induction xs with
 | nil => rfl
 | cons x xs ih => rw [List.flatMap_cons, List.length_append, ih, leB_len]; simp; omega
theorem conv_nil (W : World) : (convert 91 9 (.slice none 0 0)).run Tryz.prog W = .ok (.string ⟨#[]⟩) W := by kernel_rfl
theorem wput_any (u : Value) (xs : List Int) (w : World) (hu : NumsIn w u xs) (hz : Small xs) (hl : xs.length < 1000000) :
  Calls Tryz.prog 47 #[u] w fun e w' => e = .returned (.string (strB (wordsN xs))) ∧ Below w.heap.size w w' := by
 obtain ⟨ad, b, off, cap, rfl, ⟨h1, h2⟩, h3, ⟨h4, h4'⟩, h5, h6⟩ := hu
 have HZ : Hid (∀ i, 0 ≤ xs.getD i 0 ∧ xs.getD i 0 < 18446744073709551616) := hz
 have H1 := Lib.hid h1
 have H6 := Lib.hid h6
 clear h1 h2 h6 hz
 generalize hn : xs.length = n at *
 have HN := Lib.hid hn
 clear hn
 go_enter Tryz.func47, Tryz.ntmps47
 go_wp2_with fail
 go_loopw [8, 3] (fun i v wr => ∃ k : Nat, k ≤ n ∧ i = .int .i64 k ∧ (k = 0 → v = .slice none 0 0) ∧ Hid (OwnB wr w.heap.size v (wordsN (xs.take k))) ∧ Hid (Below w.heap.size w wr)) (fun i _ _ => n - (intOf i).toNat)
 case atStart => exact ⟨0, Nat.zero_le _, rfl, fun _ => rfl, OwnB.nil _ _, Below.refl _ _⟩
 case round =>
  obtain ⟨k, hk, rfl, hv0, ho, hb⟩ := hrel
  by_cases hlk : k < n
  ·clear hv0
   obtain rfl := H1.out (by omega)
   have hx := (H6.out.block (hb.out.block b h5)).at k hlk
   have hsm := HZ.out k
   have HS := Lib.hid (wordsN_snoc xs k (by have := HN.out; omega))
   obtain ⟨X, hX⟩ := Int.eq_ofNat_of_zero_le hsm.1
   rw [hX] at hx hsm HS
   have HS2 : Hid (wordsN (xs.take (k + 1)) = wordsN (xs.take k) ++ leB 8 X) := HS.out
   have hxx : X < 18446744073709551616 := by omega
   have hlen : (wordsN (xs.take k)).length < 10000000 := by
    rw [wordsN_len, List.length_take]
    have := HN.out
    omega
   have hws := hb.out.size
   clear hX hsm HS
   generalize wordsN (xs.take k) = done at *
   have HC : Hid (∀ v, OwnB wr w.heap.size v done → Calls Tryz.prog 76 #[v, .int .u64 X, .int .i64 8] wr fun e w' => ∃ v', e = .returned v' ∧ OwnB w' w.heap.size v' (done ++ leB 8 X) ∧ Below w.heap.size wr w') := Lib.hid fun v hv => lay64_any v done X w.heap.size 8 wr (Nat.le_refl _) hxx hv hlen hws
   go_wp2_with fail
   refine (HC.out _ ho.out).mono ?_; rintro e w2 ⟨v', rfl, ho2, hb2⟩
   have H2 : Hid (OwnB w2 w.heap.size v' (wordsN (xs.take (k + 1)))) := by show OwnB _ _ _ _; rw [HS2.out]; exact ho2
   have H3 : Hid (Below w.heap.size w w2) := hb.out.trans hb2
   clear ho2 hb2
   go_wp2_with fail
   exact ⟨⟨k + 1, by omega, by go_num, (fun e => absurd e (Nat.succ_ne_zero k)), H2, H3⟩, by simp [intOf]; omega⟩
  ·obtain rfl : k = n := by omega
   have hxk : xs.take k = xs := List.take_of_length_le (by have := HN.out; omega)
   rw [hxk] at ho
   rcases Nat.eq_zero_or_pos k with h0 | h0
   ·have hnil : xs = [] := List.eq_nil_of_length_eq_zero (by have := HN.out; omega)
    subst hnil
    obtain rfl := hv0 h0
    have hcv := conv_nil wr
    clear hv0 ho
    go_wp2_with fail
    go_ret
    exact ⟨rfl, hb.out⟩
   ·clear hv0
    have hs := ho.out.str (by rw [wordsN_len]; have := HN.out; omega)
    have hs2 : (convert 91 9 u3).run Tryz.prog wr = .ok (.string (strB (wordsN xs))) wr := hs
    clear hs
    go_wp2_with fail
    go_ret
    exact ⟨rfl, hb.out⟩
def uP (n : Nat) : List UInt8 := (strB (putN n)).data.toList
def refOkB (x : Int) : Bool := decide (x = 0) || decide (adE x = 0)
def refsU (xs : List Int) : List UInt8 := xs.flatMap fun x => uP (adV x).toNat
def refsR (xs : List Int) : ByteArray × Int := if xs.all refOkB then (⟨(refsU xs).toArray⟩, 0) else (⟨#[]⟩, 3)
theorem refsU_snoc (xs : List Int) (k : Nat) (h : k < xs.length) : refsU (xs.take (k + 1)) = refsU (xs.take k) ++ uP (adV (xs.getD k 0)).toNat := by
 unfold refsU
 rw [List.take_add_one, List.getElem?_eq_getElem h, List.flatMap_append]
 congr 1
 simp [List.getD, h]
theorem uP_len {n : Nat} (h : n < 18446744073709551616) : (uP n).length ≤ 10 ∧ 0 < (uP n).length := by
 have e : (uP n).length = (putN n).length := by
  unfold uP
  rw [Array.length_toList]
  exact strB_size _
 rw [e]
 exact ⟨putN_10 h, putN_pos n⟩
theorem adV_in {x : Int} (h : 0 ≤ x ∧ x < 18446744073709551616) : 0 ≤ adV x ∧ adV x < 18446744073709551616 := by
 unfold adV
 split <;> omega
theorem refsU_len (xs : List Int) (hz : ∀ x ∈ xs, 0 ≤ x ∧ x < 18446744073709551616) : (refsU xs).length ≤ 10 * xs.length := by
 induction xs with
 | nil => exact Nat.le_refl _
 | cons x xs ih =>
  have h1 := ih (fun y hy => hz y (List.mem_cons_of_mem _ hy))
  have h2 := adV_in (hz x (by simp))
  have h3 := uP_len (n := (adV x).toNat) (by omega)
  show (uP _ ++ refsU xs).length ≤ _
  rw [List.length_append, List.length_cons]
  omega
theorem small_mem {xs : List Int} (hz : Small xs) : ∀ x ∈ xs, 0 ≤ x ∧ x < 18446744073709551616 := fun x hx => by
 obtain ⟨i, hi, rfl⟩ := List.getElem_of_mem hx
 have := hz i
 simpa [List.getD, hi] using this
end Go.Proofs.YtpgjploaliefdaaGreat.im
namespace Go.Proofs.YtpgjploaliefdaaGreat.im
open Go Go.RowKit cm cw ga gr ob hd
open fr (OwnB leB leB_succ leB_len strB app_B bel_alloc putN putN_10 putN_pos strB_size byteV put_any)
set_option linter.unusedVariables false
set_option linter.unusedSimpArgs false
set_option maxRecDepth 100000
set_option maxHeartbeats 2000000
theorem refs_any (u : Value) (xs : List Int) (w : World) (hu : NumsIn w u xs) (hz : Small xs) (hl : xs.length < 1000000) :
  Calls Tryz.prog 17 #[u] w fun e w' => e = .returned (.tuple #[.string (refsR xs).1, .int .i64 (refsR xs).2]) ∧ Below w.heap.size w w' := by
 obtain ⟨ad, b, off, cap, rfl, ⟨h1, h2⟩, h3, ⟨h4, h4'⟩, h5, h6⟩ := hu
 have HZ : Hid (∀ i, 0 ≤ xs.getD i 0 ∧ xs.getD i 0 < 18446744073709551616) := hz
 have HZM : Hid (∀ x ∈ xs, 0 ≤ x ∧ x < 18446744073709551616) := small_mem hz
 have H1 := Lib.hid h1
 have H6 := Lib.hid h6
 have HR : Hid (refsR xs = if xs.all refOkB then (⟨(refsU xs).toArray⟩, 0) else (⟨#[]⟩, 3)) := rfl
 have HB0 : Hid (Bld w.heap.size w.heap.size [] (w.alloc (.cells #[.pointer none, .slice none 0 0] 93))) := Bld.fresh w
 have hB0 : Hid (Below w.heap.size w (w.alloc (.cells #[.pointer none, .slice none 0 0] 93))) := Lib.hid (by exact bm)
 generalize refsR xs = R at *
 clear h1 h2 h6 hz
 generalize hn : xs.length = n at *
 have HN := Lib.hid hn
 clear hn
 go_enter Tryz.func17, Tryz.ntmps17
 go_wp2_with fail
 go_loopw [11] (fun i wr => ∃ k : Nat, k ≤ n ∧ i = .int .i64 k ∧ Hid (∀ j, j < k → refOkB (xs.getD j 0) = true) ∧ Hid (Bld w.heap.size w.heap.size (refsU (xs.take k)) wr) ∧ Hid (Below w.heap.size w wr)) (fun i _ => n - (intOf i).toNat)
 case atStart => exact ⟨0, Nat.zero_le _, rfl, fun j hj => absurd hj (Nat.not_lt_zero _), HB0.out, hB0.out⟩
 case round =>
  obtain ⟨k, hk, rfl, hok, hB, hb⟩ := hrel
  clear HB0 hB0
  have hws := hb.out.size
  by_cases hlk : k < n
  ·obtain rfl := H1.out (by omega)
   have hx := (H6.out.block (hb.out.block b h5)).at k hlk
   have hsm := HZ.out k
   have hdl : (refsU (xs.take k)).length ≤ 10000000 := by
    have := refsU_len (xs.take k) (fun x hx => HZM.out x (List.mem_of_mem_take hx))
    rw [List.length_take] at this
    omega
   have HS : Hid (refsU (xs.take (k + 1)) = refsU (xs.take k) ++ uP (adV (xs.getD k 0)).toNat) := refsU_snoc xs k (by have := HN.out; omega)
   have HNX : Hid (refOkB (xs.getD k 0) = true → ∀ j, j < k + 1 → refOkB (xs.getD j 0) = true) := fun e j hj => by
    rcases Nat.lt_or_ge j k with h | h
    ·exact hok.out j h
    ·obtain rfl : j = k := by omega
     exact e
   have HBD : Hid (refOkB (xs.getD k 0) = false → R = (⟨#[]⟩, 3)) := fun e => by
    rw [HR.out, if_neg]
    intro e2
    have hkl : k < xs.length := by have := HN.out; omega
    have h3 := List.all_eq_true.1 e2 xs[k] (List.getElem_mem hkl)
    have h4 : xs.getD k 0 = xs[k] := by simp [List.getD, hkl]
    rw [h4, h3] at e
    cases e
   clear hok
   generalize xs.getD k 0 = x at *
   generalize refsU (xs.take k) = done at *
   obtain ⟨hx1, hx2⟩ := hsm
   have hav := adV_in ⟨hx1, hx2⟩
   obtain ⟨Y, hY⟩ := Int.eq_ofNat_of_zero_le hav.1
   have hYl : Y < 18446744073709551616 := by omega
   have HA : Hid (∀ W, Calls Tryz.prog 52 #[.int .u64 x] W fun e w' => e = .returned (.tuple #[.int .u64 (adV x), .int .i64 (adE x)]) ∧ W = w') := Lib.hid fun W => addr_any x W hx1 hx2
   have HP : Hid (∀ W, Calls Tryz.prog 45 #[.int .u64 Y] W fun e w' => e = .returned (.string (strB (putN Y))) ∧ Below W.heap.size W w') := Lib.hid fun W => put_any Y W hYl
   have hul := uP_len hYl
   have HU : Hid (uP Y = (strB (putN Y)).data.toList) := rfl
   have HUL : (strB (putN Y)).size ≤ 10 := by
    have := hul.1
    rw [HU.out, Array.length_toList] at this
    exact this
   rw [hY] at HA HS
   have HS2 : Hid (refsU (xs.take (k + 1)) = done ++ (strB (putN Y)).data.toList) := HS.out
   clear HS HU hul
   generalize strB (putN Y) = S at *
   by_cases h0 : x = 0
   ·subst h0
    obtain rfl : Y = 0 := by
     have : adV 0 = 0 := rfl
     omega
    have HN1 := Lib.hid (HNX.out rfl)
    clear HNX HBD
    go_wp2_with fail
    refine (HP.out _).mono ?_; rintro e' w1 ⟨rfl, k1⟩
    have HB1 : Hid (Bld w.heap.size w.heap.size done w1) := Lib.hid (hB.out.tr k1)
    have hb1 : Hid (Below w.heap.size w w1) := Lib.hid (by have := hb.out; exact bm)
    have hws1 := hb1.out.size
    clear k1 hB hb HP
    go_wp2_with fail
    refine (write_any w.heap.size w.heap.size done S _ HB1.out (by omega) hws1).mono ?_; rintro e' w2 ⟨rfl, hB2, k2⟩
    have HB2 := Lib.hid hB2
    have hb2 : Hid (Below w.heap.size w w2) := Lib.hid (hb1.out.trans k2)
    clear hB2 k2 HB1 hb1
    go_wp2_with fail
    exact ⟨⟨k + 1, by omega, by go_num, HN1.out, by show Bld _ _ _ _; rw [HS2.out]; exact HB2.out, hb2.out⟩, by simp [intOf]; omega⟩
   ·have h0b : (x == 0) = false := beq_eq_false_iff_ne.mpr h0
    by_cases h1 : adE x = 0
    ·have HN1 := Lib.hid (HNX.out (by simp [refOkB, h1]))
     rw [h1] at HA
     clear HNX HBD
     go_wp2_with fail
     refine (HA.out _).mono ?_; rintro e ww ⟨rfl, rfl⟩
     go_wp2_with fail
     refine (HP.out _).mono ?_; rintro e' w1 ⟨rfl, k1⟩
     have HB1 : Hid (Bld w.heap.size w.heap.size done w1) := Lib.hid (hB.out.tr k1)
     have hb1 : Hid (Below w.heap.size w w1) := Lib.hid (by have := hb.out; exact bm)
     have hws1 := hb1.out.size
     clear k1 hB hb HP
     go_wp2_with fail
     refine (write_any w.heap.size w.heap.size done S _ HB1.out (by omega) hws1).mono ?_; rintro e' w2 ⟨rfl, hB2, k2⟩
     have HB2 := Lib.hid hB2
     have hb2 : Hid (Below w.heap.size w w2) := Lib.hid (hb1.out.trans k2)
     clear hB2 k2 HB1 hb1
     go_wp2_with fail
     exact ⟨⟨k + 1, by omega, by go_num, HN1.out, by show Bld _ _ _ _; rw [HS2.out]; exact HB2.out, hb2.out⟩, by simp [intOf]; omega⟩
    ·have h1b : (adE x == 0) = false := beq_eq_false_iff_ne.mpr h1
     have HR3 := Lib.hid (HBD.out (by simp [refOkB, h0, h1]))
     clear HNX HBD
     generalize adE x = z at *
     go_wp2_with fail
     refine (HA.out _).mono ?_; rintro e ww ⟨rfl, rfl⟩
     go_wp2_with fail
     go_ret2
     exact ⟨by rw [HR3.out]; rfl, hb.out⟩
  ·obtain rfl : k = n := by omega
   have hxk : xs.take k = xs := List.take_of_length_le (by have := HN.out; omega)
   rw [hxk] at hB
   have HR2 : Hid (R = (⟨(refsU xs).toArray⟩, 0)) := by
    show _ = _
    rw [HR.out, if_pos]
    rw [List.all_eq_true]
    intro x hx
    obtain ⟨m, hm, rfl⟩ := List.mem_iff_getElem.1 hx
    have h3 := hok.out m (by have := HN.out; omega)
    have h4 : xs.getD m 0 = xs[m] := by simp [List.getD, hm]
    rw [h4] at h3
    exact h3
   go_wp2_with fail
   refine (string_any w.heap.size w.heap.size (refsU xs) _ hB.out hws).mono ?_; rintro e' w1 ⟨rfl, hB1, k1⟩
   have hb1 : Hid (Below w.heap.size w w1) := Lib.hid (hb.out.trans k1)
   clear hB1 k1 hB hb
   go_wp2_with fail
   go_ret2
   exact ⟨by rw [HR2.out]; rfl, hb1.out⟩
end Go.Proofs.YtpgjploaliefdaaGreat.im
