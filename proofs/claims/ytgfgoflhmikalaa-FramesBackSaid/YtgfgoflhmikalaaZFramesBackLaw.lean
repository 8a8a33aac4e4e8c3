/- The statement Rows.FramesBackSaid (cromlech/cromlechlaw04.FramesBack), out of its walk. Conditions: none but the statement's own. -/
import Derived.Test.YtgfgoflhmikalaaM35
import Derived.Test.YtgfgoflhmikalaaRows
import Derived.WalkKit
import Derived.ProofKit
import Derived.OpenShut
import Derived.ShutString
import Derived.ChangeOld
import Derived.Below
import Derived.Lib.SmallJoins
import Derived.Conc.HoldsTime
namespace Go.Proofs.Ytgfgoflhmikalaa.fr
open Go Go.RowKit Go.Proofs.Ytgfgoflhmikalaa.cm Go.Proofs.Ytgfgoflhmikalaa.cw Go.Proofs.Ytgfgoflhmikalaa.ga Go.Proofs.Ytgfgoflhmikalaa.gr Go.Proofs.Ytgfgoflhmikalaa.lw Go.Proofs.Ytgfgoflhmikalaa.fl
set_option linter.unusedVariables false
set_option linter.unusedSimpArgs false
variable {HC : Code}
attribute [local irreducible] Go.Proofs.Ytgfgoflhmikalaa.par.loneP
set_option maxRecDepth 100000 in
set_option maxHeartbeats 8000000 in
theorem back_walk (hEq : HC = par.Hm) (v0 : Value) (is : List Int) (v1 : Value) (bs : List ByteArray) (ah : ByteArray) (w : World) (h0 : RIn 1 enI w v0 is) (hi : ∀ x ∈ is, -9223372036854775808 ≤ x ∧ x < 9223372036854775808) (h1 : RIn 1 enS w v1 bs) (hb : ∀ s ∈ bs, s.size ≤ maxLen) (hah : ah.size ≤ maxLen) :
    Calls (Go.Proofs.Ytgfgoflhmikalaa.par.loneP HC) 4 #[v0, v1, .string ah] w fun e w' => e = .returned (.bool true) ∧ Below w.heap.size w w' := by
  have HAW := Lib.hid (fun W => awake_any hEq W)
  have HL := Lib.hid (fun W h0 h1 => list_any (HC := HC) v0 v1 is bs W h0 h1 hi hb)
  have hF := listR_fine is bs
  have hlen : (listR is bs).length ≤ 8 := by rw [listR_len]; omega
  have hsz : ∀ f ∈ listR is bs, f.2.size ≤ 40 := fun f hf => (listR_ok f hf).2
  have H0 := Lib.hid h0
  have H1 := Lib.hid h1
  clear hi hb h0 h1
  generalize listR is bs = fs at *
  have hJs : (jB fs).size < 1000 := by have := jB_size_le hsz (by omega); have := Nat.mul_le_mul hlen (Nat.le_refl 55); omega
  have HJ := Lib.hid (fun v W h => join_any (HC := HC) v fs W h (by omega) hF.sz hF.i64)
  rw [jB_R hF] at HJ
  have HA := Lib.hid (fun W => all_any hEq (jB fs) W (by omega))
  rw [jB_all hF] at HA
  have hA20 : (cutB ah 20).size ≤ 20 := cutB_le _ _
  have hcb : cutB ah 20 = ah.extract 0 (min ah.size 20) := rfl
  have hAs : (cutB ah 20).size = min ah.size 20 := by rw [hcb]; simp
  unfold maxLen at hah
  have hmono : ∀ k, (jB (fs.take k)).size ≤ (jB fs).size := fun k => by
    conv => rhs; rw [← List.take_append_drop k fs, jB_app, ByteArray.size_append]
    omega
  obtain ⟨P, hP⟩ : ∃ P : Nat → Nat, ∀ k, P k = (cutB ah 20).size + (jB (fs.take k)).size := ⟨fun k => (cutB ah 20).size + (jB (fs.take k)).size, fun _ => rfl⟩
  have HT := Lib.hid (fun (k : Nat) (hk : k < fs.length) (W : World) => (by
    have h := ftake_any hEq (cutB ah 20 ++ jB fs) (P k) W (by simp; omega) (by rw [hP]; have := hmono k; omega)
    rw [hP k, tk_join _ hF hk, ← hP, ← hP] at h
    exact h : Calls (Go.Proofs.Ytgfgoflhmikalaa.par.loneP HC) 20 #[.string (cutB ah 20 ++ jB fs), .int .i64 (P k : Int)] W fun e w' => e = .returned (tkV (.ok (fs.getD k (0, ⟨#[]⟩)).1.toNat (fs.getD k (0, ⟨#[]⟩)).2 (P (k + 1)))) ∧ Below W.heap.size W w'))
  clear hEq
  rw [hcb] at HT
  have hP0 : P 0 = (cutB ah 20).size := by rw [hP]; rfl
  have hPL : Hid (P fs.length = (cutB ah 20).size + (jB fs).size) := Lib.hid (by rw [hP, List.take_length])
  have hPle : Hid (∀ k, P k < 10000) := Lib.hid (fun k => by rw [hP]; have := hmono k; omega)
  clear hP hmono
  generalize hm : min ah.size 20 = m at *
  have hmm : min (ah.size : Int) 20 = (m : Int) := by omega
  have hmi : (if (20 : Int) < (ah.size : Int) then 20 else (ah.size : Int)) = (m : Int) := by split <;> omega
  have hmle : (m : Int) ≤ (ah.size : Int) := by omega
  rw [hAs] at hP0 hPL
  rw [hcb] at hAs
  clear hm hcb hA20
  have ad1 := add_run (HC := HC) (ah.extract 0 m) (jB fs) (by omega)
  have hids := Lib.hid hF.ok
  go_enter (Go.Proofs.Ytgfgoflhmikalaa.par.lfun4 (H := HC)), Try.ntmps4
  go_wp2_with fail
  refine (HAW.out _).mono ?_; rintro e w1 ⟨rfl, k1⟩
  go_wp2_with fail
  refine (HL.out _ (H0.out.tr k1) (H1.out.tr k1)).mono ?_; rintro e w2 ⟨v2, rfl, ho2, k2⟩
  have hb2 : Below w.heap.size w w2 := kp_tr k1 k2
  have hv2 := ho2.sees (fun _ => rfl)
  clear k1 k2 ho2 H0 H1 HL HAW
  go_wp2_with fail
  refine (HJ.out _ _ hv2).mono ?_; rintro e w3 ⟨rfl, k3⟩
  replace hv2 := hv2.tr k3
  replace hb2 := kp_tr hb2 k3
  clear k3 HJ
  go_wp2_with fail
  refine (HA.out _).mono ?_; rintro e w4 ⟨v4, rfl, hv4, k4⟩
  replace hv2 := hv2.tr k4
  replace hb2 := kp_tr hb2 k4
  clear k4 HA
  obtain ⟨ad, b, off, cap, rfl, q1, q2, q3, q4, q5, hX⟩ := hv2.form
  have HX := Lib.hid hX
  have HV4 := Lib.hid hv4
  have HB2 := Lib.hid hb2
  clear hX hv2 hv4 hb2 q2
  go_wp2_with fail
  go_loopw [14, 15] (fun at_ i wr => ∃ k : Nat, k ≤ fs.length ∧ i = .int .i64 k ∧ at_ = .int .i64 (P k : Int) ∧ Hid (Below w4.heap.size w4 wr)) (fun _ i _ => fs.length - (intOf i).toNat)
  case atStart => exact ⟨0, Nat.zero_le _, rfl, by rw [hP0], Lib.hid (Below.refl _ _)⟩
  case round =>
    obtain ⟨k, hk, rfl, rfl, hb⟩ := hrel
    by_cases hlk : k < fs.length
    · obtain rfl := q1 (by omega)
      have hx : fs[k]? = some (fs.getD k (0, ⟨#[]⟩)) := by simp [List.getD, hlk]
      have x0 := HX.out.at hx 0 _ rfl
      have x1 := HX.out.at hx 1 _ rfl
      rw [Nat.add_zero] at x0
      have hio := hids.out _ (List.mem_of_getElem? hx)
      have hbl := q5 (by omega)
      have HTk := Lib.hid (HT.out k hlk)
      have hPk := hPle.out (k + 1)
      clear hx
      generalize fs.getD k (0, ⟨#[]⟩) = f at *
      obtain ⟨id, body⟩ := f
      dsimp only at *
      obtain ⟨i1, i2⟩ := hio
      dsimp only at i1 i2
      have hid : ((id.toNat : Nat) : Int) = id := by omega
      go_wp2_with fail
      refine (HTk.out _).mono ?_; rintro e w5 ⟨rfl, k5⟩
      simp only [tkV, frV, hid]
      have hb5 : Hid (Below w4.heap.size w4 w5) := Lib.hid (kp_tr hb.out k5)
      have y0 := cell_tr hb5.out x0
      have y1 := cell_tr hb5.out x1
      have hbl5 : b < w5.heap.size := Nat.lt_of_lt_of_le hbl hb5.out.size
      have hfe : ∀ w', Sem.run (Go.Proofs.Ytgfgoflhmikalaa.par.loneP HC) (Op.equalIn 10000 27 (.agg #[.int .i64 id, .string body]) (.agg #[.int .i64 id, .string body])) w' = .ok true w' := fun w' => by rw [feq0, fbeq]; simp
      clear k5 hb x0 x1 HTk
      go_wp2_with fail
      have z0 : (w5.alloc (.cells #[.int .i64 id, .string body] 27)).cell? ⟨b, off + k * 2, none⟩ = some (.int .i64 id) := cell_tr (kp_alloc (Below.refl _ _) _) y0
      have z1 : (w5.alloc (.cells #[.int .i64 id, .string body] 27)).cell? ⟨b, off + k * 2 + 1, none⟩ = some (.string body) := cell_tr (kp_alloc (Below.refl _ _) _) y1
      go_region
      go_wp2_with fail
      exact ⟨⟨k + 1, by omega, by go_num, by first | rfl | go_num, Lib.hid (kp_drew (kp_alloc hb5.out _))⟩, by simp [intOf]; omega⟩
    · obtain rfl : k = fs.length := by omega
      have HV5 := Lib.hid (HV4.out.tr hb.out)
      have HX5 := Lib.hid (HX.out.tr hb.out)
      have hb5 : Hid (Below w.heap.size w wr) := Lib.hid (kp_tr HB2.out hb.out)
      have hPL2 := hPL.out
      clear hb HV4 HX HT
      go_wp2_with fail
      refine (same_any _ _ fs fs _ HV5.out HX5.out).mono ?_; rintro e w6 ⟨rfl, k6⟩
      rw [decide_eq_true rfl]
      have hb6 : Hid (Below w.heap.size w w6) := Lib.hid (kp_tr hb5.out k6)
      clear k6 HV5 HX5 hb5
      go_wp2_with fail
      go_ret
      exact ⟨rfl, hb6.out⟩
end Go.Proofs.Ytgfgoflhmikalaa.fr

namespace Go.Proofs.Ytgfgoflhmikalaa.framesBackLaw
open Go.Proofs.Ytgfgoflhmikalaa Go.Proofs.Ytgfgoflhmikalaa.par
open Go Go.ChangeShapes Go.WideShapes Go.ChangeAt Go.RowKit Go.Joins Go.Conc Go.ConcM
open Go.ChangeMaps (open_string shut_string)
set_option linter.unusedVariables false
set_option linter.unusedSimpArgs false
attribute [local irreducible] Go.Proofs.Ytgfgoflhmikalaa.par.loneP
theorem own : ownKnob Try.prog.godebug = none := by kernel_rfl
theorem laidOut : laidOutB Try.prog = true := by kernel_rfl
theorem nospec : ¬ Sp 4 := by unfold Sp; decide
theorem bothLaw : Both (loneF Hm) Try.prog.funcs 4 := ⟨_, _, _, _, (lone_funcs (H := Hm)) ▸ lfun4 (H := Hm), Try.func4, rfl, rfl⟩

set_option maxRecDepth 100000 in
theorem lifted (os : Os) (started : os.Started) (H : Type) (enc : TypeId × Value → H) (SF : Stop.Interp) :
    ReturnsInLeavingWide Rows.framesBackRow.assume Try.checked os 4 .any (Rows.framesBackSpec.pre6 enc Try.prog Try.f4 Rows.framesBackRow.domain false) ((OpenSpec.ofChange Rows.framesBackSpec).postWith enc Try.prog Try.f4 SF (outsideKept [.timePasses]) false true false) := by
  refine returnsInLeavingWide_of_change_time (C := Try.checked) own started Try.func4
    (ChangeSpec.witness6c (enc := enc) (C := Try.checked) ⟨#[], #[.slice none 0 0, .slice none 0 0, .string ByteArray.empty], []⟩ 8 (by kernel_rfl) (by kernel_rfl) (by kernel_rfl) (by kernel_rfl)) ?_
  intro W base args ds gs before hval0 hW _ _ _
  have hval : ∀ (j : Nat) t v, Try.f4.params[j]? = some t → args[j]? = some v → Value.okWide Try.prog W .any base t v := hval0
  have hW' := hW
  obtain ⟨p, q, hA0, hV, rfl, hfz, hnd⟩ := hW
  have hA : DataW.TrodAll enc Try.prog W 0 (fun _ => true) true Try.f4.params.toList args.toList ds p := hA0
  rw [Try.params4] at hA hval
  obtain ⟨v0, vs0, d0, ds0, p0, q0', hargs, rfl, rfl, h0, r0⟩ := trodAll_cons hA
  obtain ⟨v1, vs1, d1, ds1, p1, q1', rfl, rfl, rfl, h1, r1⟩ := trodAll_cons r0
  obtain ⟨v2, vs2, d2, ds2, p2, q2', rfl, rfl, rfl, h2, r2⟩ := trodAll_cons r1
  obtain ⟨rfl, rfl, rfl⟩ := trodAll_nil r2
  obtain rfl : args = #[v0, v1, v2] := by cases args; simp_all
  obtain ⟨rfl, rfl⟩ := trodVars_none hV
  have k0 := h0
  have lt0 : ∀ x ∈ p0, x.block < W.heap.size := by obtain ⟨m, hm⟩ := k0; exact DataW.trod_lt m _ _ _ hm
  have k1 := h1
  have lt1 : ∀ x ∈ p1, x.block < W.heap.size := by obtain ⟨m, hm⟩ := k1; exact DataW.trod_lt m _ _ _ hm
  have k2 := h2
  have lt2 : ∀ x ∈ p2, x.block < W.heap.size := by obtain ⟨m, hm⟩ := k2; exact DataW.trod_lt m _ _ _ hm
  have q0 := lw.vr_slice Try.underlying23 (hval 0 23 v0 rfl rfl)
  have q1 := lw.vr_slice Try.underlying24 (hval 1 24 v1 rfl rfl)
  have q2 := lw.vr_str Try.underlying9 (hval 2 9 v2 rfl rfl)
  have hvr := lw.vrs_of (W := W) (args := #[v0, v1, v2]) (fun v hv => by simp at hv; rcases hv with rfl | rfl | rfl <;> assumption)
  clear q0 q1 q2
  obtain ⟨a0, w0, x0⟩ := lw.ints_arg Try.underlying23 Try.underlying3 (by kernel_rfl) (hval 0 23 v0 rfl rfl) h0
  obtain ⟨a1, w1, x1⟩ := lw.strs_arg Try.underlying24 Try.underlying9 (by kernel_rfl) (hval 1 24 v1 rfl rfl) h1
  obtain ⟨a2, rfl, rfl, rfl, w2⟩ := open_string Try.underlying9 (hval 2 9 v2 rfl rfl) h2
  clear hA0 hval0
  obtain ⟨M, last, o, w', t', r1, r2, r3, v, e, ⟨rfl, bel⟩, g1, g2, g3, g4⟩ := main_law Try.func4 Try.results4 (lfun4 (H := Hm)) Try.results4 (by kernel_rfl) nospec bothLaw (Nat.zero_le _) hvr hold_ok hold_one (fun τ => by
    have h := fr.back_walk (HC := Hm) rfl v0 a0 v1 a1 a2 (tp (cleanW W) τ) (lw.clean_rin w0 lw.enI_clv τ) x0 (lw.clean_rin w1 lw.enS_clv τ) x1 w2
    have e : (tp (cleanW W) τ).heap.size = W.heap.size := clean_size W
    rw [e] at h
    exact h)
  refine ⟨M, last, o, w', t', r1, r2, r3, _, e, ⟨?_, by rw [bel.os]; exact OsLater.refl _⟩, g1, g2, g3, g4⟩
  have bel2 : Below W.heap.size W { w' with os := W.os } := ⟨rfl, bel.tape, bel.output, bel.size, bel.block⟩
  exact ⟨_, _, _, [], _, [], hW', trodAll_mk1 (shut_bool Try.underlying4 _), (trodAll_cons_mk (Below.trod laidOut (by kernel_rfl) (of_decide_eq_true (by kernel_rfl)) k0 bel2 lt0) (trodAll_cons_mk (Below.trod laidOut (by kernel_rfl) (of_decide_eq_true (by kernel_rfl)) k1 bel2 lt1) (trodAll_cons_mk (Below.trod laidOut (by kernel_rfl) (of_decide_eq_true (by kernel_rfl)) k2 bel2 lt2) trodAll_mk0))), rfl, bel2.frame _, fun h => by cases h⟩

theorem over : Rows.framesBackRow.holds Try.pinned (OpenSpec.ofChange Rows.framesBackSpec) :=
  OpenClaim.holds_of_wide_leaving_time 4 Try.f4 rfl rfl rfl rfl rfl rfl rfl ⟨rfl, rfl, rfl, rfl, rfl⟩ rfl rfl rfl rfl rfl (by kernel_rfl) Try.func4 (by kernel_rfl)
    (of_decide_eq_true (by kernel_rfl)) (by unfold Func.isWrapper; first | (rw [if_pos (by decide +kernel)]; kernel_rfl) | (rw [if_neg (by decide +kernel)]; exact ⟨rfl, rfl⟩))
    (fun os started H enc _ SF => lifted os started H enc SF)

theorem proved : Rows.FramesBackSaid := over
end Go.Proofs.Ytgfgoflhmikalaa.framesBackLaw
