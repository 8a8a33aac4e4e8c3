/- The statement Rows.FramesCutsSaid (cromlech/cromlechlaw04.FramesCuts), out of its walk. Conditions: none but the statement's own. -/
import Derived.Test.YtgfgoflhmikalaaM35
import Derived.Test.YtgfgoflhmikalaaRows
import Derived.WalkKit
import Derived.ProofKit
import Derived.OpenShut
import Derived.ShutString
import Derived.ChangeOld
import Derived.Below
import Derived.Lib.SmallJoins
import Derived.Conc.HoldsTime
namespace Go.Proofs.Ytgfgoflhmikalaa.fr
open Go Go.RowKit Go.Proofs.Ytgfgoflhmikalaa.cm Go.Proofs.Ytgfgoflhmikalaa.cw Go.Proofs.Ytgfgoflhmikalaa.ga Go.Proofs.Ytgfgoflhmikalaa.gr Go.Proofs.Ytgfgoflhmikalaa.lw Go.Proofs.Ytgfgoflhmikalaa.fl
set_option linter.unusedVariables false
set_option linter.unusedSimpArgs false
variable {HC : Code}
attribute [local irreducible] Go.Proofs.Ytgfgoflhmikalaa.par.loneP
/-- The first things of a slice. -/
theorem rin_head {α : Type} {k : Nat} {en : α → List Value} {W : World} {ad : Option Addr} {n cap : Nat} {zs : List α} (h : RIn k en W (.slice ad n cap) zs) (i : Nat) (hi : i ≤ zs.length) : RIn k en W (.slice ad i cap) (zs.take i) := by
  obtain ⟨ad', b, off, cap', e, h1, h2, h3, h4, h5, h6⟩ := h.form
  cases e
  refine RIn.mk (ad := ad) (b := b) (off := off) (cap := cap) (by rw [List.length_take]; congr 1; omega) (fun h0 => h1 (by rw [List.length_take] at h0; omega)) h2 (by rw [List.length_take]; omega) h4 (fun h0 => h5 (by rw [List.length_take] at h0; omega)) fun i2 j x y hx hy => ?_
  have hl : i2 < (zs.take i).length := by
    rcases Nat.lt_or_ge i2 (zs.take i).length with h | h
    · exact h
    · rw [List.getElem?_eq_none h] at hx; cases hx
  rw [List.length_take] at hl
  have := h1 (by omega)
  subst this
  rw [List.getElem?_take, if_pos (by omega)] at hx
  exact h6.at hx j y hy
set_option maxRecDepth 100000 in
set_option maxHeartbeats 8000000 in
theorem cuts_walk (hEq : HC = par.Hm) (v0 : Value) (is : List Int) (v1 : Value) (bs : List ByteArray) (at_ : Int) (w : World) (h0 : RIn 1 enI w v0 is) (hi : ∀ x ∈ is, -9223372036854775808 ≤ x ∧ x < 9223372036854775808) (h1 : RIn 1 enS w v1 bs) (hb : ∀ s ∈ bs, s.size ≤ maxLen)
    (hat : -9223372036854775808 ≤ at_ ∧ at_ < 9223372036854775808) :
    Calls (Go.Proofs.Ytgfgoflhmikalaa.par.loneP HC) 7 #[v0, v1, .int .i64 at_] w fun e w' => e = .returned (.bool true) ∧ Below w.heap.size w w' := by
  have HAW := Lib.hid (fun W => awake_any hEq W)
  have HL := Lib.hid (fun W h0 h1 => list_any (HC := HC) v0 v1 is bs W h0 h1 hi hb)
  have hF := listR_fine is bs
  have hlen : (listR is bs).length ≤ 8 := by rw [listR_len]; omega
  have hsz : ∀ f ∈ listR is bs, f.2.size ≤ 40 := fun f hf => (listR_ok f hf).2
  have H0 := Lib.hid h0
  have H1 := Lib.hid h1
  clear hi hb h0 h1
  generalize listR is bs = fs at *
  have hJs : (jB fs).size < 1000 := by have := jB_size_le hsz (by omega); have := Nat.mul_le_mul hlen (Nat.le_refl 55); omega
  have HJ := Lib.hid (fun v W h => join_any (HC := HC) v fs W h (by omega) hF.sz hF.i64)
  rw [jB_R hF] at HJ
  obtain ⟨P, hP⟩ : ∃ P : Nat → Nat, ∀ i, P i = (jB (fs.take i)).size := ⟨_, fun _ => rfl⟩
  obtain ⟨k, hk⟩ : ∃ k : Nat, pickI at_ ((jB fs).size + 1) = (k : Int) := Int.eq_ofNat_of_zero_le (pickI_in at_ (by omega)).1
  have hkl : k ≤ (jB fs).size := by have := (pickI_in at_ (n := (jB fs).size + 1) (by omega)).2; omega
  have HPK := Lib.hid (fun W => pick_any (HC := HC) at_ ((jB fs).size + 1) W (by omega) (by omega) hat.1 hat.2)
  rw [hk] at HPK
  have HJI := Lib.hid (fun v (i : Nat) W (h : RIn 2 encF W v (fs.take i)) => (by
    have h := join_any (HC := HC) v (fs.take i) W h (by rw [List.length_take]; omega) (hF.take i).sz (hF.take i).i64
    rw [jB_R (hF.take i)] at h
    exact h : Calls (Go.Proofs.Ytgfgoflhmikalaa.par.loneP HC) 11 #[v] W fun e w' => e = .returned (.tuple #[.string (jB (fs.take i)), .int .i64 0]) ∧ Below W.heap.size W w'))
  have HA := Lib.hid (fun W => all_any hEq ((jB fs).extract 0 k) W (by simp; omega))
  have HZ := Lib.hid (fun W => all_any hEq (jB fs ++ ⟨#[0]⟩) W (by rw [ByteArray.size_append]; show _ + 1 < _; omega))
  rw [cut_zero hF] at HZ
  have HB1 := Lib.hid (fun i => cut_between hF i)
  have HB2 := Lib.hid (fun hn => cut_within hF hkl hn)
  clear hEq hsz hat hF hk
  have hkl2 : (k : Int) ≤ ((jB fs).size : Int) := by omega
  have hz1 : (⟨#[0]⟩ : ByteArray).size = 1 := rfl
  have ad1 := add_run (HC := HC) (jB fs) ⟨#[0]⟩ (by rw [hz1]; omega)
  clear hz1
  go_enter (Go.Proofs.Ytgfgoflhmikalaa.par.lfun7 (H := HC)), Try.ntmps7
  go_wp2_with fail
  refine (HAW.out _).mono ?_; rintro e w1 ⟨rfl, k1⟩
  go_wp2_with fail
  refine (HL.out _ (H0.out.tr k1) (H1.out.tr k1)).mono ?_; rintro e w2 ⟨v2, rfl, ho2, k2⟩
  have hb2 : Below w.heap.size w w2 := kp_tr k1 k2
  have hv2 := ho2.sees (fun _ => rfl)
  clear k1 k2 ho2 H0 H1 HL HAW
  go_wp2_with fail
  refine (HJ.out _ _ hv2).mono ?_; rintro e w3 ⟨rfl, k3⟩
  replace hb2 := kp_tr hb2 k3
  replace hv2 := hv2.tr k3
  clear k3 HJ
  go_wp2_with fail
  refine (HPK.out _).mono ?_; rintro e w4 ⟨rfl, rfl⟩
  obtain ⟨ad, b, off, cap, rfl, q1, q2, q3, q4, q5, hX⟩ := hv2.form
  have HX := Lib.hid hX
  have HB3 := Lib.hid hb2
  clear hX hv2 hb2 q2 HPK
  go_wp2_with fail
  go_loopw [12, 13, 14] (fun bw n i wr => ∃ j : Nat, j ≤ fs.length + 1 ∧ i = .int .i64 j ∧ ((bw = .bool false ∧ n = .int .i64 0 ∧ Hid (∀ j', j' < j → ¬ (jB (fs.take j')).size = k)) ∨ ∃ n' : Nat, n' ≤ fs.length ∧ bw = .bool true ∧ n = .int .i64 n' ∧ Hid ((jB (fs.take n')).size = k)) ∧ Hid (Below w3.heap.size w3 wr)) (fun _ _ i _ => fs.length + 1 - (intOf i).toNat)
  case atStart => exact ⟨0, by omega, rfl, .inl ⟨rfl, rfl, Lib.hid (fun j' h => absurd h (by omega))⟩, Lib.hid (Below.refl _ _)⟩
  case round =>
    obtain ⟨j, hj, rfl, hrel, hb⟩ := hrel
    by_cases hlj : j ≤ fs.length
    · have hj2 : (j : Int) ≤ (fs.length : Int) := by omega
      have hj3 : (j : Int) ≤ (cap : Int) := by omega
      have hXj := (rin_head HX.out j hlj).tr hb.out
      by_cases hjk : (jB (fs.take j)).size = k
      · have hjk2 : ((jB (fs.take j)).size : Int) = (k : Int) := by omega
        clear hrel
        go_wp2_with fail
        refine (HJI.out _ j _ hXj).mono ?_; rintro e w5 ⟨rfl, k5⟩
        have hb5 : Hid (Below w3.heap.size w3 w5) := Lib.hid (kp_tr hb.out k5)
        clear k5 hb hXj
        go_wp2_with fail
        exact ⟨⟨j + 1, by omega, by go_num, .inr ⟨j, hlj, rfl, rfl, Lib.hid hjk⟩, hb5⟩, by simp [intOf]; omega⟩
      · have hjk2 : ¬ ((jB (fs.take j)).size : Int) = (k : Int) := by omega
        rcases hrel with ⟨rfl, rfl, hno⟩ | ⟨n', hn', rfl, rfl, hyes⟩
        · have hno2 : Hid (∀ j', j' < j + 1 → ¬ (jB (fs.take j')).size = k) := Lib.hid (fun j' h => by
            by_cases e : j' = j
            · rw [e]; exact hjk
            · exact hno.out j' (by omega))
          clear hno
          go_wp2_with fail
          refine (HJI.out _ j _ hXj).mono ?_; rintro e w5 ⟨rfl, k5⟩
          have hb5 : Hid (Below w3.heap.size w3 w5) := Lib.hid (kp_tr hb.out k5)
          clear k5 hb hXj
          go_wp2_with fail
          exact ⟨⟨j + 1, by omega, by go_num, .inl ⟨rfl, rfl, hno2⟩, hb5⟩, by simp [intOf]; omega⟩
        · go_wp2_with fail
          refine (HJI.out _ j _ hXj).mono ?_; rintro e w5 ⟨rfl, k5⟩
          have hb5 : Hid (Below w3.heap.size w3 w5) := Lib.hid (kp_tr hb.out k5)
          clear k5 hb hXj
          go_wp2_with fail
          exact ⟨⟨j + 1, by omega, by go_num, .inr ⟨n', hn', rfl, rfl, hyes⟩, hb5⟩, by simp [intOf]; omega⟩
    · obtain rfl : j = fs.length + 1 := by omega
      have hnl : ¬ ((fs.length : Int) + 1 ≤ (fs.length : Int)) := by omega
      rcases hrel with ⟨rfl, rfl, hno⟩ | ⟨n', hn', rfl, rfl, hyes⟩
      · have hA := HB2.out (fun i hi => hno.out i (by omega))
        rw [hA] at HA
        clear hA hno HB1 HB2
        go_wp2_with fail
        refine (HA.out _).mono ?_; rintro e w5 ⟨v5, rfl, hv5, k5⟩
        obtain ⟨ad5, b5, off5, cap5, rfl, -, -, -, -, -, -⟩ := hv5.form
        have hb5 : Hid (Below w3.heap.size w3 w5) := Lib.hid (kp_tr hb.out k5)
        clear hv5 k5 hb HA
        go_wp2_with fail
        refine (HZ.out _).mono ?_; rintro e w6 ⟨v6, rfl, hv6, k6⟩
        have hb6 : Hid (Below w3.heap.size w3 w6) := Lib.hid (kp_tr hb5.out k6)
        clear hv6 k6 hb5 HZ
        go_wp2_with fail
        go_ret
        exact ⟨rfl, kp_tr HB3.out hb6.out⟩
      · have hA := HB1.out n'
        rw [hyes.out] at hA
        rw [hA] at HA
        clear hA hyes HB1 HB2
        have hn2 : (n' : Int) ≤ (fs.length : Int) := by omega
        have hn3 : (n' : Int) ≤ (cap : Int) := by omega
        have HXn := Lib.hid (rin_head HX.out n' hn')
        go_wp2_with fail
        refine (HA.out _).mono ?_; rintro e w5 ⟨v5, rfl, hv5, k5⟩
        have hb5 : Hid (Below w3.heap.size w3 w5) := Lib.hid (kp_tr hb.out k5)
        have HV5 := Lib.hid hv5
        clear hv5 hb HA
        go_wp2_with fail
        refine (HZ.out _).mono ?_; rintro e w6 ⟨v6, rfl, hv6, k6⟩
        have hb6 : Hid (Below w3.heap.size w3 w6) := Lib.hid (kp_tr hb5.out k6)
        have HV6 := Lib.hid (HV5.out.tr k6)
        clear hv6 k6 k5 hb5 HZ HV5
        go_wp2_with fail
        refine (same_any _ _ (fs.take n') (fs.take n') _ HV6.out (HXn.out.tr hb6.out)).mono ?_; rintro e w7 ⟨rfl, k7⟩
        rw [decide_eq_true rfl]
        have hb7 : Hid (Below w3.heap.size w3 w7) := Lib.hid (kp_tr hb6.out k7)
        clear k7 HV6 hb6
        go_wp2_with fail
        go_ret
        exact ⟨rfl, kp_tr HB3.out hb7.out⟩
end Go.Proofs.Ytgfgoflhmikalaa.fr

namespace Go.Proofs.Ytgfgoflhmikalaa.framesCutsLaw
open Go.Proofs.Ytgfgoflhmikalaa Go.Proofs.Ytgfgoflhmikalaa.par
open Go Go.ChangeShapes Go.WideShapes Go.ChangeAt Go.RowKit Go.Joins Go.Conc Go.ConcM
open Go.ChangeMaps (open_string shut_string)
set_option linter.unusedVariables false
set_option linter.unusedSimpArgs false
attribute [local irreducible] Go.Proofs.Ytgfgoflhmikalaa.par.loneP
theorem own : ownKnob Try.prog.godebug = none := by kernel_rfl
theorem laidOut : laidOutB Try.prog = true := by kernel_rfl
theorem nospec : ¬ Sp 7 := by unfold Sp; decide
theorem bothLaw : Both (loneF Hm) Try.prog.funcs 7 := ⟨_, _, _, _, (lone_funcs (H := Hm)) ▸ lfun7 (H := Hm), Try.func7, rfl, rfl⟩

set_option maxRecDepth 100000 in
theorem lifted (os : Os) (started : os.Started) (H : Type) (enc : TypeId × Value → H) (SF : Stop.Interp) :
    ReturnsInLeavingWide Rows.framesCutsRow.assume Try.checked os 7 .any (Rows.framesCutsSpec.pre6 enc Try.prog Try.f7 Rows.framesCutsRow.domain false) ((OpenSpec.ofChange Rows.framesCutsSpec).postWith enc Try.prog Try.f7 SF (outsideKept [.timePasses]) false true false) := by
  refine returnsInLeavingWide_of_change_time (C := Try.checked) own started Try.func7
    (ChangeSpec.witness6c (enc := enc) (C := Try.checked) ⟨#[], #[.slice none 0 0, .slice none 0 0, .int .i64 0], []⟩ 8 (by kernel_rfl) (by kernel_rfl) (by kernel_rfl) (by kernel_rfl)) ?_
  intro W base args ds gs before hval0 hW _ _ _
  have hval : ∀ (j : Nat) t v, Try.f7.params[j]? = some t → args[j]? = some v → Value.okWide Try.prog W .any base t v := hval0
  have hW' := hW
  obtain ⟨p, q, hA0, hV, rfl, hfz, hnd⟩ := hW
  have hA : DataW.TrodAll enc Try.prog W 0 (fun _ => true) true Try.f7.params.toList args.toList ds p := hA0
  rw [Try.params7] at hA hval
  obtain ⟨v0, vs0, d0, ds0, p0, q0', hargs, rfl, rfl, h0, r0⟩ := trodAll_cons hA
  obtain ⟨v1, vs1, d1, ds1, p1, q1', rfl, rfl, rfl, h1, r1⟩ := trodAll_cons r0
  obtain ⟨v2, vs2, d2, ds2, p2, q2', rfl, rfl, rfl, h2, r2⟩ := trodAll_cons r1
  obtain ⟨rfl, rfl, rfl⟩ := trodAll_nil r2
  obtain rfl : args = #[v0, v1, v2] := by cases args; simp_all
  obtain ⟨rfl, rfl⟩ := trodVars_none hV
  have k0 := h0
  have lt0 : ∀ x ∈ p0, x.block < W.heap.size := by obtain ⟨m, hm⟩ := k0; exact DataW.trod_lt m _ _ _ hm
  have k1 := h1
  have lt1 : ∀ x ∈ p1, x.block < W.heap.size := by obtain ⟨m, hm⟩ := k1; exact DataW.trod_lt m _ _ _ hm
  have k2 := h2
  have lt2 : ∀ x ∈ p2, x.block < W.heap.size := by obtain ⟨m, hm⟩ := k2; exact DataW.trod_lt m _ _ _ hm
  have q0 := lw.vr_slice Try.underlying23 (hval 0 23 v0 rfl rfl)
  have q1 := lw.vr_slice Try.underlying24 (hval 1 24 v1 rfl rfl)
  have q2 := lw.vr_int Try.underlying3 (hval 2 3 v2 rfl rfl)
  have hvr := lw.vrs_of (W := W) (args := #[v0, v1, v2]) (fun v hv => by simp at hv; rcases hv with rfl | rfl | rfl <;> assumption)
  clear q0 q1 q2
  obtain ⟨a0, w0, x0⟩ := lw.ints_arg Try.underlying23 Try.underlying3 (by kernel_rfl) (hval 0 23 v0 rfl rfl) h0
  obtain ⟨a1, w1, x1⟩ := lw.strs_arg Try.underlying24 Try.underlying9 (by kernel_rfl) (hval 1 24 v1 rfl rfl) h1
  obtain ⟨a2, rfl, rfl, rfl, w2⟩ := open_int Try.underlying3 (hval 2 3 v2 rfl rfl) h2
  clear hA0 hval0
  obtain ⟨M, last, o, w', t', r1, r2, r3, v, e, ⟨rfl, bel⟩, g1, g2, g3, g4⟩ := main_law Try.func7 Try.results7 (lfun7 (H := Hm)) Try.results7 (by kernel_rfl) nospec bothLaw (Nat.zero_le _) hvr hold_ok hold_one (fun τ => by
    have h := fr.cuts_walk (HC := Hm) rfl v0 a0 v1 a1 a2 (tp (cleanW W) τ) (lw.clean_rin w0 lw.enI_clv τ) x0 (lw.clean_rin w1 lw.enS_clv τ) x1 (wfb_i64 w2)
    have e : (tp (cleanW W) τ).heap.size = W.heap.size := clean_size W
    rw [e] at h
    exact h)
  refine ⟨M, last, o, w', t', r1, r2, r3, _, e, ⟨?_, by rw [bel.os]; exact OsLater.refl _⟩, g1, g2, g3, g4⟩
  have bel2 : Below W.heap.size W { w' with os := W.os } := ⟨rfl, bel.tape, bel.output, bel.size, bel.block⟩
  exact ⟨_, _, _, [], _, [], hW', trodAll_mk1 (shut_bool Try.underlying4 _), (trodAll_cons_mk (Below.trod laidOut (by kernel_rfl) (of_decide_eq_true (by kernel_rfl)) k0 bel2 lt0) (trodAll_cons_mk (Below.trod laidOut (by kernel_rfl) (of_decide_eq_true (by kernel_rfl)) k1 bel2 lt1) (trodAll_cons_mk (Below.trod laidOut (by kernel_rfl) (of_decide_eq_true (by kernel_rfl)) k2 bel2 lt2) trodAll_mk0))), rfl, bel2.frame _, fun h => by cases h⟩

theorem over : Rows.framesCutsRow.holds Try.pinned (OpenSpec.ofChange Rows.framesCutsSpec) :=
  OpenClaim.holds_of_wide_leaving_time 7 Try.f7 rfl rfl rfl rfl rfl rfl rfl ⟨rfl, rfl, rfl, rfl, rfl⟩ rfl rfl rfl rfl rfl (by kernel_rfl) Try.func7 (by kernel_rfl)
    (of_decide_eq_true (by kernel_rfl)) (by unfold Func.isWrapper; first | (rw [if_pos (by decide +kernel)]; kernel_rfl) | (rw [if_neg (by decide +kernel)]; exact ⟨rfl, rfl⟩))
    (fun os started H enc _ SF => lifted os started H enc SF)

theorem proved : Rows.FramesCutsSaid := over
end Go.Proofs.Ytgfgoflhmikalaa.framesCutsLaw
