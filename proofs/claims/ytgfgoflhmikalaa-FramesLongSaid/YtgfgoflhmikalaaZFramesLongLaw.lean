/- The statement Rows.FramesLongSaid (cromlech/cromlechlaw04.FramesLong), out of its walk. Conditions: none but the statement's own. -/
import Derived.Test.YtgfgoflhmikalaaM35
import Derived.Test.YtgfgoflhmikalaaRows
import Derived.WalkKit
import Derived.ProofKit
import Derived.OpenShut
import Derived.ShutString
import Derived.ChangeOld
import Derived.Below
import Derived.Lib.SmallJoins
import Derived.Conc.HoldsTime
namespace Go.Proofs.Ytgfgoflhmikalaa.fr
open Go Go.RowKit Go.Proofs.Ytgfgoflhmikalaa.cm Go.Proofs.Ytgfgoflhmikalaa.cw Go.Proofs.Ytgfgoflhmikalaa.ga Go.Proofs.Ytgfgoflhmikalaa.gr Go.Proofs.Ytgfgoflhmikalaa.lw Go.Proofs.Ytgfgoflhmikalaa.fl
set_option linter.unusedVariables false
set_option linter.unusedSimpArgs false
variable {HC : Code}
attribute [local irreducible] Go.Proofs.Ytgfgoflhmikalaa.par.loneP
theorem len_any (v : Nat) (w : World) (hv : v < 18446744073709551616) :
    Calls (Go.Proofs.Ytgfgoflhmikalaa.par.loneP HC) 22 #[.int .u64 v] w fun e w' => e = .returned (.int .i64 ((putN v).length : Int)) ∧ w = w' := by
  have hle := putN_10 hv
  go_enter (Go.Proofs.Ytgfgoflhmikalaa.par.lfun22 (H := HC)), Try.ntmps22
  go_wp2_with fail
  go_loopw [0, 3] (fun x n wr => ∃ (u k : Nat), u < 18446744073709551616 ∧ x = .int .u64 (u : Int) ∧ n = .int .i64 ((k : Nat) : Int) ∧ Hid ((putN v).length + 1 = k + (putN u).length) ∧ k ≤ 10 ∧ wr = w) (fun x _ _ => (intOf x).toNat)
  case atStart => exact ⟨v, 1, hv, rfl, rfl, Lib.hid (by omega), by omega, rfl⟩
  case round =>
    obtain ⟨u, k, hu, rfl, rfl, hk, hk10, rfl⟩ := hrel
    by_cases h : u < 128
    · have hL : Hid ((putN v).length = k) := Lib.hid (by have := hk.out; rw [putN_lo h] at this; simp at this; omega)
      have h128 : ¬ (128 : Int) ≤ (u : Int) := by omega
      go_wp2_with fail
      go_ret
      exact ⟨by rw [hL.out]; rfl, rfl⟩
    · have hp := putN_pos (u / 128)
      have hN : Hid ((putN v).length + 1 = k + 1 + (putN (u / 128)).length) := Lib.hid (by have := hk.out; rw [putN_hi h] at this; simp at this; omega)
      have hk9 : k + 1 ≤ 10 := by have := hN.out; omega
      have h128 : (128 : Int) ≤ (u : Int) := by omega
      clear hk
      go_wp2_with fail
      exact ⟨⟨u / 128, k + 1, by omega, by first | rfl | go_num, by go_num, hN, hk9, trivial⟩, by simp [intOf]; omega⟩
theorem fr_len (id : Nat) (body : ByteArray) (h : id ≤ 127) : (frameS id body).size = 5 + (putN body.size).length + body.size := by
  rw [← bytesN_len, frameS_N _ h, frL_len, bytesN_len]
theorem fr_head (id : Nat) (body : ByteArray) (h : id ≤ 127) (h0 : 0 < (frameS id body).size) : ((frameS id body)[0]'h0).toNat = id := by
  have e := frameS_N body h
  have h1 : (bytesN (frameS id body))[0]? = some ((frameS id body)[0]'h0).toNat := by
    rw [List.getElem?_eq_getElem (by rw [bytesN_len]; exact h0)]
    simp [bytesN]
    rfl
  rw [e, frL_cons] at h1
  simp at h1
  exact h1.symm
theorem fr_pre {f g : GFr} (hf : idOk f ∧ f.2.size ≤ 100000) (hg : idOk g ∧ g.2.size ≤ 100000) {n : Nat} (hn : n = min (frameS f.1.toNat f.2).size (frameS g.1.toNat g.2).size) (h : (frameS f.1.toNat f.2).extract 0 n = (frameS g.1.toNat g.2).extract 0 n) : f = g := by
  have e := congrArg bytesN h
  rw [bytesN_ext, bytesN_ext] at e
  simp only [List.drop_zero, Nat.sub_zero] at e
  have hF := frameS_N (id := f.1.toNat) f.2 (by have := hf.1.2; omega)
  have hG := frameS_N (id := g.1.toNat) g.2 (by have := hg.1.2; omega)
  have oF := ofF_ok hf.1 (by omega)
  have oG := ofF_ok hg.1 (by omega)
  have key : ofF f = ofF g := by
    rcases Nat.le_total (frameS f.1.toNat f.2).size (frameS g.1.toNat g.2).size with hl | hl
    · rw [show n = (bytesN (frameS f.1.toNat f.2)).length by rw [bytesN_len]; omega, List.take_length] at e
      refine fr_free oF oG (x := (bytesN (frameS g.1.toNat g.2)).drop (bytesN (frameS f.1.toNat f.2)).length) ?_
      have := List.take_append_drop (bytesN (frameS f.1.toNat f.2)).length (bytesN (frameS g.1.toNat g.2))
      rw [← e, hG] at this
      rw [hF] at this
      exact this.symm.trans (by rw [hF, hG]; rfl)
    · rw [show n = (bytesN (frameS g.1.toNat g.2)).length by rw [bytesN_len]; omega, List.take_length] at e
      refine (fr_free oG oF (x := (bytesN (frameS f.1.toNat f.2)).drop (bytesN (frameS g.1.toNat g.2)).length) ?_).symm
      have := List.take_append_drop (bytesN (frameS g.1.toNat g.2)).length (bytesN (frameS f.1.toNat f.2))
      rw [e, hF] at this
      rw [hG] at this
      exact this.symm.trans (by rw [hF, hG]; rfl)
  rw [← toF_ofF hf.1, ← toF_ofF hg.1, key]
theorem tol_beq (a b : ByteArray) : (a.toList == b.toList) = decide (a = b) := by rw [← beq_toListBytes, beqB]
set_option maxRecDepth 100000 in
set_option maxHeartbeats 16000000 in
theorem long_walk (hEq : HC = par.Hm) (v0 : Value) (is : List Int) (v1 : Value) (bs : List ByteArray) (w : World) (h0 : RIn 1 enI w v0 is) (hi : ∀ x ∈ is, -9223372036854775808 ≤ x ∧ x < 9223372036854775808) (h1 : RIn 1 enS w v1 bs) (hb : ∀ s ∈ bs, s.size ≤ maxLen) :
    Calls (Go.Proofs.Ytgfgoflhmikalaa.par.loneP HC) 8 #[v0, v1] w fun e w' => e = .returned (.bool true) ∧ Below w.heap.size w w' := by
  have HAW := Lib.hid (fun W => awake_any hEq W)
  have HL := Lib.hid (fun W h0 h1 => list_any (HC := HC) v0 v1 is bs W h0 h1 hi hb)
  have HF := Lib.hid (listR_fine is bs)
  have hlen : (listR is bs).length ≤ 8 := by rw [listR_len]; omega
  have HSZ : Hid (∀ f ∈ listR is bs, f.2.size ≤ 40) := Lib.hid (fun f hf => (listR_ok f hf).2)
  have H0 := Lib.hid h0
  have H1 := Lib.hid h1
  clear hi hb h0 h1 hEq
  generalize listR is bs = fs at *
  go_enter (Go.Proofs.Ytgfgoflhmikalaa.par.lfun8 (H := HC)), Try.ntmps8
  go_wp2_with fail
  refine (HAW.out _).mono ?_; rintro e w1 ⟨rfl, k1⟩
  go_wp2_with fail
  refine (HL.out _ (H0.out.tr k1) (H1.out.tr k1)).mono ?_; rintro e w2 ⟨v2, rfl, ho2, k2⟩
  have HB2 : Hid (Below w.heap.size w w2) := Lib.hid (kp_tr k1 k2)
  obtain ⟨ad, b2, off, cap, rfl, q1, q2, q3, q4, q5, hX⟩ := (ho2.sees (fun _ => rfl)).form
  have HX := Lib.hid hX
  clear k1 k2 ho2 H0 H1 HL HAW hX q2
  go_wp2_with fail
  go_loopw [7] (fun i wr => ∃ j : Nat, j ≤ fs.length ∧ i = .int .i64 j ∧ Hid (Below w2.heap.size w2 wr)) (fun i _ => fs.length - (intOf i).toNat)
  case atStart => exact ⟨0, Nat.zero_le _, rfl, Lib.hid (Below.refl _ _)⟩
  case round =>
    obtain ⟨j, hj, rfl, hb⟩ := hrel
    by_cases hlj : j < fs.length
    · obtain rfl := q1 (by omega)
      have hbl := q5 (by omega)
      have hxj : fs[j]? = some (fs.getD j (0, ⟨#[]⟩)) := by simp [List.getD, hlj]
      have hfj := HF.out _ (List.mem_of_getElem? hxj)
      have hsj := HSZ.out _ (List.mem_of_getElem? hxj)
      have x0 := HX.out.at hxj 0 _ rfl
      have x1 := HX.out.at hxj 1 _ rfl
      rw [Nat.add_zero] at x0
      obtain ⟨fj, hfje⟩ : ∃ fj, fs.getD j (0, ⟨#[]⟩) = fj := ⟨_, rfl⟩
      rw [hfje] at hxj hfj hsj x0 x1
      clear hfje
      obtain ⟨id, body⟩ := fj
      dsimp only at *
      obtain ⟨⟨i1, i2⟩, -⟩ := (fun h => h) hfj
      dsimp only at i1 i2
      obtain ⟨n, rfl⟩ := Int.eq_ofNat_of_zero_le (show 0 ≤ id by omega)
      have hn1 : 1 ≤ n := by omega
      have hn2 : n ≤ 127 := by omega
      have y0 := cell_tr hb.out x0
      have y1 := cell_tr hb.out x1
      have hbl2 : b2 < wr.heap.size := Nat.lt_of_lt_of_le hbl hb.out.size
      have HP := Lib.hid (fun W => fput_any (HC := HC) n body W hn1 hn2 (by omega))
      have hAl := fr_len n body hn2
      have HAh := Lib.hid (fr_head n body hn2)
      have HLN := Lib.hid (fun W => len_any (HC := HC) body.size W (by omega))
      have hp10 := putN_10 (v := body.size) (by omega)
      have HPRE := Lib.hid (fun (g : GFr) (hg : idOk g ∧ g.2.size ≤ 100000) m hm h => fr_pre (f := ((n : Int), body)) hfj hg (n := m) hm h)
      have htn : ((n : Int)).toNat = n := by omega
      dsimp only at HPRE
      rw [htn] at HPRE
      have HEQ : Hid (∀ g : GFr, frameS n body = frameS g.1.toNat g.2 → g = ((n : Int), body) ∨ ¬ g = ((n : Int), body)) := Lib.hid (fun g _ => Decidable.em _)
      clear HEQ
      generalize hA : frameS n body = A at *
      generalize hPN : (putN body.size).length = pn at *
      have hw64 : IntKind.u64.wrap (body.size : Int) = (body.size : Int) := wr_u64 _ (by omega)
      have hA0 : 0 < A.size := by omega
      have hAh := HAh.out hA0
      obtain ⟨L5, hL5⟩ : ∃ L5 : Nat, L5 = 5 + pn := ⟨_, rfl⟩
      have hw5 : IntKind.i64.wrap (5 + (pn : Int)) = (L5 : Int) := by rw [wr_i64 _ (by omega)]; omega
      have hw6 : IntKind.i64.wrap ((L5 : Int) + (body.size : Int)) = (A.size : Int) := by rw [wr_i64 _ (by omega)]; omega
      have hwn : IntKind.i64.wrap (n : Int) = (n : Int) := wr_i64 _ (by omega)
      have hA0i : (0 : Int) < (A.size : Int) := by omega
      have HAL := Lib.hid hAl
      have HL5 := Lib.hid hL5
      clear hAl hL5
      go_wp2_with fail
      go_region_held3 (fun w' => w'.cell? ⟨b2, off + j * 2, none⟩ = some (.int .i64 (n : Int)) ∧ w'.cell? ⟨b2, off + j * 2 + 1, none⟩ = some (.string body))
        ((refine s2_tr (W := wr) ?_ ⟨y0, y1⟩; (repeat (first | with_reducible exact Below.refl _ _ | with_reducible refine kp_alloc ?_ _ | with_reducible refine kp_drew ?_ | with_reducible refine kp_set ?_ (by first | omega | (simp; done) | (simp; omega)) _ | with_reducible refine kp_tr ?_ (by with_reducible assumption)))))
        (first
          | (go_at_call 13; refine (HP.out _).mono ?_; rintro e w4 ⟨rfl, k4⟩))
      have HB4 : Hid (Below w2.heap.size w2 w4) := Lib.hid (by have := hb.out; (repeat (first | with_reducible exact Below.refl _ _ | with_reducible refine kp_alloc ?_ _ | with_reducible refine kp_drew ?_ | with_reducible refine kp_set ?_ (by first | omega | (simp; done) | (simp; omega)) _ | with_reducible refine kp_tr ?_ (by with_reducible assumption))))
      have z0 := cell_tr HB4.out x0
      have z1 := cell_tr HB4.out x1
      have hbl4 : b2 < w4.heap.size := Nat.lt_of_lt_of_le hbl HB4.out.size
      clear k4 hb HP y0 y1 hbl2
      go_wp2_with fail
      go_region_held3 (fun w' => w'.cell? ⟨b2, off + j * 2, none⟩ = some (.int .i64 (n : Int)) ∧ w'.cell? ⟨b2, off + j * 2 + 1, none⟩ = some (.string body))
        ((refine s2_tr (W := w4) ?_ ⟨z0, z1⟩; (repeat (first | with_reducible exact Below.refl _ _ | with_reducible refine kp_alloc ?_ _ | with_reducible refine kp_drew ?_ | with_reducible refine kp_set ?_ (by first | omega | (simp; done) | (simp; omega)) _ | with_reducible refine kp_tr ?_ (by with_reducible assumption)))))
        (first
          | (go_at_call 22; refine (HLN.out _).mono ?_; rintro e ww ⟨rfl, rfl⟩))
      replace HB4 : Hid (Below w2.heap.size w2 w4.drew) := Lib.hid (kp_drew HB4.out)
      generalize w4.drew = W4 at *
      clear z0 z1 hbl4 hw5 hw6 hwn HLN hAh hw64 HAL HL5 HAh
      go_wp2_with fail
      go_loopw [10] (fun i wr2 => ∃ k : Nat, k ≤ j ∧ i = .int .i64 k ∧ Hid (Below w2.heap.size w2 wr2)) (fun i _ => j - (intOf i).toNat)
      case atStart => exact ⟨0, Nat.zero_le _, rfl, HB4⟩
      case round =>
        clear HB4
        obtain ⟨k, hk, rfl, hb⟩ := hrel
        by_cases hlk : k < j
        · have hxk : fs[k]? = some (fs.getD k (0, ⟨#[]⟩)) := by simp [List.getD, show k < fs.length by omega]
          have hfk := HF.out _ (List.mem_of_getElem? hxk)
          have hsk := HSZ.out _ (List.mem_of_getElem? hxk)
          have u0 := HX.out.at hxk 0 _ rfl
          have u1 := HX.out.at hxk 1 _ rfl
          rw [Nat.add_zero] at u0
          generalize fs.getD k (0, ⟨#[]⟩) = fk at *
          obtain ⟨gid, gbody⟩ := fk
          dsimp only at u0 u1 hsk
          have g1 : 1 ≤ gid := hfk.1.1
          have g2 : gid ≤ 127 := hfk.1.2
          obtain ⟨gn, rfl⟩ := Int.eq_ofNat_of_zero_le (show 0 ≤ gid by omega)
          have y0 := cell_tr hb.out x0
          have y1 := cell_tr hb.out x1
          have z0 := cell_tr hb.out u0
          have z1 := cell_tr hb.out u1
          have hblr : b2 < wr.heap.size := Nat.lt_of_lt_of_le hbl hb.out.size
          have HPg := Lib.hid (fun W => fput_any (HC := HC) gn gbody W (by omega) (by omega) (by omega))
          have HPR := Lib.hid (HPRE.out ((gn : Int), gbody) hfk)
          have htg : ((gn : Int)).toNat = gn := by omega
          dsimp only at HPR
          rw [htg] at HPR
          have hBs := frameS_size gn gbody (by omega)
          have hAs : A.size < 1000 := by rw [← hA]; have := frameS_size n body (by omega); omega
          have hklen : (k : Int) < (fs.length : Int) := by omega
          have hjlen : (j : Int) < (fs.length : Int) := by omega
          have hAB : (gn : Int) = (n : Int) ∧ gbody = body → A = frameS gn gbody := fun h => by
            rw [← hA, h.2, show gn = n by omega]
          clear hxk hfk g1 g2 htg
          generalize hB : frameS gn gbody = B at *
          obtain ⟨m, hm⟩ : ∃ m, m = min A.size B.size := ⟨_, rfl⟩
          have hmi : min (A.size : Int) (B.size : Int) = (m : Int) := by omega
          have hmi2 : (if (B.size : Int) < (A.size : Int) then (B.size : Int) else (A.size : Int)) = (m : Int) := by split <;> omega
          have hmA : (m : Int) ≤ (A.size : Int) := by omega
          have hmB : (m : Int) ≤ (B.size : Int) := by omega
          have HPR2 := Lib.hid (HPR.out m hm)
          have hfe := feq0 (HC := HC) (n : Int) (gn : Int) body gbody
          rw [fbeq] at hfe
          clear HPR hm hB
          by_cases he : ((n : Int), body) = (((gn : Int), gbody) : GFr)
          · have hAB2 : A = B := hAB (by injection he with a b; exact ⟨a.symm, b.symm⟩)
            rw [decide_eq_true he] at hfe
            subst hAB2
            clear HPR2 hAB he
            go_wp2_with fail
            go_region_held3 (fun w' => w'.cell? ⟨b2, off + k * 2, none⟩ = some (.int .i64 (gn : Int)) ∧ w'.cell? ⟨b2, off + k * 2 + 1, none⟩ = some (.string gbody))
              ((refine s2_tr (W := wr) ?_ ⟨z0, z1⟩; (repeat (first | with_reducible exact Below.refl _ _ | with_reducible refine kp_alloc ?_ _ | with_reducible refine kp_drew ?_ | with_reducible refine kp_set ?_ (by first | omega | (simp; done) | (simp; omega)) _ | with_reducible refine kp_tr ?_ (by with_reducible assumption)))))
              (first
                | (go_at_call 13; refine (HPg.out _).mono ?_; rintro e w5 ⟨rfl, k5⟩))
            have HB5 : Hid (Below w2.heap.size w2 w5) := Lib.hid (by have := hb.out; (repeat (first | with_reducible exact Below.refl _ _ | with_reducible refine kp_alloc ?_ _ | with_reducible refine kp_drew ?_ | with_reducible refine kp_set ?_ (by first | omega | (simp; done) | (simp; omega)) _ | with_reducible refine kp_tr ?_ (by with_reducible assumption))))
            clear k5 hb HPg y0 y1 z0 z1 hblr
            have y0 := cell_tr HB5.out x0
            have y1 := cell_tr HB5.out x1
            have z0 := cell_tr HB5.out u0
            have z1 := cell_tr HB5.out u1
            have hbl5 : b2 < w5.heap.size := Nat.lt_of_lt_of_le hbl HB5.out.size
            go_wp2_with fail
            go_region
            go_wp2_with fail
            exact ⟨⟨k + 1, by omega, by go_num, Lib.hid (kp_drew HB5.out)⟩, by simp [intOf]; omega⟩
          · rw [decide_eq_false he] at hfe
            have hne : ¬ A.extract 0 m = B.extract 0 m := fun h => he (HPR2.out h)
            have hAB3 : ¬ A = B := fun h => hne (by rw [h])
            have hne2 : ((A.extract 0 m).toList == (B.extract 0 m).toList) = false := by rw [tol_beq, decide_eq_false hne]
            have hAB4 : (A.toList == B.toList) = false := by rw [tol_beq, decide_eq_false hAB3]
            clear HPR2 hAB he hne hAB3
            go_wp2_with fail
            go_region_held3 (fun w' => w'.cell? ⟨b2, off + k * 2, none⟩ = some (.int .i64 (gn : Int)) ∧ w'.cell? ⟨b2, off + k * 2 + 1, none⟩ = some (.string gbody))
              ((refine s2_tr (W := wr) ?_ ⟨z0, z1⟩; (repeat (first | with_reducible exact Below.refl _ _ | with_reducible refine kp_alloc ?_ _ | with_reducible refine kp_drew ?_ | with_reducible refine kp_set ?_ (by first | omega | (simp; done) | (simp; omega)) _ | with_reducible refine kp_tr ?_ (by with_reducible assumption)))))
              (first
                | (go_at_call 13; refine (HPg.out _).mono ?_; rintro e w5 ⟨rfl, k5⟩))
            have HB5 : Hid (Below w2.heap.size w2 w5) := Lib.hid (by have := hb.out; (repeat (first | with_reducible exact Below.refl _ _ | with_reducible refine kp_alloc ?_ _ | with_reducible refine kp_drew ?_ | with_reducible refine kp_set ?_ (by first | omega | (simp; done) | (simp; omega)) _ | with_reducible refine kp_tr ?_ (by with_reducible assumption))))
            clear k5 hb HPg y0 y1 z0 z1 hblr
            have y0 := cell_tr HB5.out x0
            have y1 := cell_tr HB5.out x1
            have z0 := cell_tr HB5.out u0
            have z1 := cell_tr HB5.out u1
            have hbl5 : b2 < w5.heap.size := Nat.lt_of_lt_of_le hbl HB5.out.size
            go_wp2_with fail
            go_region
            go_wp2_with fail
            exact ⟨⟨k + 1, by omega, by go_num, Lib.hid (kp_drew HB5.out)⟩, by simp [intOf]; omega⟩
        · obtain rfl : k = j := by omega
          go_wp2_with fail
          exact ⟨⟨k + 1, by omega, by go_num, hb⟩, by simp [intOf]; omega⟩
    · obtain rfl : j = fs.length := by omega
      have hb5 : Hid (Below w.heap.size w wr) := Lib.hid (kp_tr HB2.out hb.out)
      go_wp2_with fail
      go_ret
      exact ⟨rfl, hb5.out⟩
end Go.Proofs.Ytgfgoflhmikalaa.fr

namespace Go.Proofs.Ytgfgoflhmikalaa.framesLongLaw
open Go.Proofs.Ytgfgoflhmikalaa Go.Proofs.Ytgfgoflhmikalaa.par
open Go Go.ChangeShapes Go.WideShapes Go.ChangeAt Go.RowKit Go.Joins Go.Conc Go.ConcM
open Go.ChangeMaps (open_string shut_string)
set_option linter.unusedVariables false
set_option linter.unusedSimpArgs false
attribute [local irreducible] Go.Proofs.Ytgfgoflhmikalaa.par.loneP
theorem own : ownKnob Try.prog.godebug = none := by kernel_rfl
theorem laidOut : laidOutB Try.prog = true := by kernel_rfl
theorem nospec : ¬ Sp 8 := by unfold Sp; decide
theorem bothLaw : Both (loneF Hm) Try.prog.funcs 8 := ⟨_, _, _, _, (lone_funcs (H := Hm)) ▸ lfun8 (H := Hm), Try.func8, rfl, rfl⟩

set_option maxRecDepth 100000 in
theorem lifted (os : Os) (started : os.Started) (H : Type) (enc : TypeId × Value → H) (SF : Stop.Interp) :
    ReturnsInLeavingWide Rows.framesLongRow.assume Try.checked os 8 .any (Rows.framesLongSpec.pre6 enc Try.prog Try.f8 Rows.framesLongRow.domain false) ((OpenSpec.ofChange Rows.framesLongSpec).postWith enc Try.prog Try.f8 SF (outsideKept [.timePasses]) false true false) := by
  refine returnsInLeavingWide_of_change_time (C := Try.checked) own started Try.func8
    (ChangeSpec.witness6c (enc := enc) (C := Try.checked) ⟨#[], #[.slice none 0 0, .slice none 0 0], []⟩ 8 (by kernel_rfl) (by kernel_rfl) (by kernel_rfl) (by kernel_rfl)) ?_
  intro W base args ds gs before hval0 hW _ _ _
  have hval : ∀ (j : Nat) t v, Try.f8.params[j]? = some t → args[j]? = some v → Value.okWide Try.prog W .any base t v := hval0
  have hW' := hW
  obtain ⟨p, q, hA0, hV, rfl, hfz, hnd⟩ := hW
  have hA : DataW.TrodAll enc Try.prog W 0 (fun _ => true) true Try.f8.params.toList args.toList ds p := hA0
  rw [Try.params8] at hA hval
  obtain ⟨v0, vs0, d0, ds0, p0, q0', hargs, rfl, rfl, h0, r0⟩ := trodAll_cons hA
  obtain ⟨v1, vs1, d1, ds1, p1, q1', rfl, rfl, rfl, h1, r1⟩ := trodAll_cons r0
  obtain ⟨rfl, rfl, rfl⟩ := trodAll_nil r1
  obtain rfl : args = #[v0, v1] := by cases args; simp_all
  obtain ⟨rfl, rfl⟩ := trodVars_none hV
  have k0 := h0
  have lt0 : ∀ x ∈ p0, x.block < W.heap.size := by obtain ⟨m, hm⟩ := k0; exact DataW.trod_lt m _ _ _ hm
  have k1 := h1
  have lt1 : ∀ x ∈ p1, x.block < W.heap.size := by obtain ⟨m, hm⟩ := k1; exact DataW.trod_lt m _ _ _ hm
  have q0 := lw.vr_slice Try.underlying23 (hval 0 23 v0 rfl rfl)
  have q1 := lw.vr_slice Try.underlying24 (hval 1 24 v1 rfl rfl)
  have hvr := lw.vrs_of (W := W) (args := #[v0, v1]) (fun v hv => by simp at hv; rcases hv with rfl | rfl <;> assumption)
  clear q0 q1
  obtain ⟨a0, w0, x0⟩ := lw.ints_arg Try.underlying23 Try.underlying3 (by kernel_rfl) (hval 0 23 v0 rfl rfl) h0
  obtain ⟨a1, w1, x1⟩ := lw.strs_arg Try.underlying24 Try.underlying9 (by kernel_rfl) (hval 1 24 v1 rfl rfl) h1
  clear hA0 hval0
  obtain ⟨M, last, o, w', t', r1, r2, r3, v, e, ⟨rfl, bel⟩, g1, g2, g3, g4⟩ := main_law Try.func8 Try.results8 (lfun8 (H := Hm)) Try.results8 (by kernel_rfl) nospec bothLaw (Nat.zero_le _) hvr hold_ok hold_one (fun τ => by
    have h := fr.long_walk (HC := Hm) rfl v0 a0 v1 a1 (tp (cleanW W) τ) (lw.clean_rin w0 lw.enI_clv τ) x0 (lw.clean_rin w1 lw.enS_clv τ) x1
    have e : (tp (cleanW W) τ).heap.size = W.heap.size := clean_size W
    rw [e] at h
    exact h)
  refine ⟨M, last, o, w', t', r1, r2, r3, _, e, ⟨?_, by rw [bel.os]; exact OsLater.refl _⟩, g1, g2, g3, g4⟩
  have bel2 : Below W.heap.size W { w' with os := W.os } := ⟨rfl, bel.tape, bel.output, bel.size, bel.block⟩
  exact ⟨_, _, _, [], _, [], hW', trodAll_mk1 (shut_bool Try.underlying4 _), (trodAll_cons_mk (Below.trod laidOut (by kernel_rfl) (of_decide_eq_true (by kernel_rfl)) k0 bel2 lt0) (trodAll_cons_mk (Below.trod laidOut (by kernel_rfl) (of_decide_eq_true (by kernel_rfl)) k1 bel2 lt1) trodAll_mk0)), rfl, bel2.frame _, fun h => by cases h⟩

theorem over : Rows.framesLongRow.holds Try.pinned (OpenSpec.ofChange Rows.framesLongSpec) :=
  OpenClaim.holds_of_wide_leaving_time 8 Try.f8 rfl rfl rfl rfl rfl rfl rfl ⟨rfl, rfl, rfl, rfl, rfl⟩ rfl rfl rfl rfl rfl (by kernel_rfl) Try.func8 (by kernel_rfl)
    (of_decide_eq_true (by kernel_rfl)) (by unfold Func.isWrapper; first | (rw [if_pos (by decide +kernel)]; kernel_rfl) | (rw [if_neg (by decide +kernel)]; exact ⟨rfl, rfl⟩))
    (fun os started H enc _ SF => lifted os started H enc SF)

theorem proved : Rows.FramesLongSaid := over
end Go.Proofs.Ytgfgoflhmikalaa.framesLongLaw
