/- varint.Row, varint.Put. LONE=1. No conditions. -/
import Derived.Test.YtpgjploaliefdaaGreatG11
import Derived.WalkMore
import Derived.Deep.RegionHeld3
import Derived.Deep.RegionWith
import Derived.Test.YtpgjploaliefdaaGreatGr
namespace Go.Proofs.YtpgjploaliefdaaGreat.fr
open Go.RowKit Go.Proofs.YtpgjploaliefdaaGreat.cm Go.Proofs.YtpgjploaliefdaaGreat.cw
set_option linter.unusedVariables false
set_option linter.unusedSimpArgs false
/-- A number's digits. -/
def putN (v : Nat) : List Nat := if v < 128 then [v] else (v % 128 + 128) :: putN (v / 128)
termination_by v
decreasing_by omega
theorem putN_lo {v : Nat} (h : v < 128) : putN v = [v] := by rw [putN, if_pos h]
theorem putN_hi {v : Nat} (h : ¬ v < 128) : putN v = (v % 128 + 128) :: putN (v / 128) := by rw [putN, if_neg h]
theorem putN_len : ∀ (k v : Nat), v < 128 ^ (k + 1) → (putN v).length ≤ k + 1
  | 0, v, h => by rw [putN_lo (by simpa using h)]; simp
  | k + 1, v, h => by
    by_cases hv : v < 128
    · rw [putN_lo hv]; simp
    · rw [putN_hi hv]
      have := putN_len k (v / 128) (by rw [Nat.pow_succ] at h; omega)
      simp
      omega
theorem putN_pos (v : Nat) : 0 < (putN v).length := by
  by_cases hv : v < 128
  · rw [putN_lo hv]; simp
  · rw [putN_hi hv]; simp
theorem putN_10 {v : Nat} (h : v < 18446744073709551616) : (putN v).length ≤ 10 := putN_len 9 v (Nat.lt_of_lt_of_le h (by decide))
def rowN (xs : List Nat) : List Nat := xs.flatMap putN
theorem rowN_snoc (xs : List Nat) (k : Nat) (h : k < xs.length) : rowN (xs.take (k + 1)) = rowN (xs.take k) ++ putN (xs.getD k 0) := by
  unfold rowN
  rw [List.take_add_one, List.flatMap_append]
  simp [List.getD, h]
set_option maxRecDepth 100000 in
set_option maxHeartbeats 4000000 in
theorem row_any (b cap : Nat) (xs : List Nat) (w : World) (hc : ∀ i, i < xs.length → w.cell? ⟨b, i, none⟩ = some (.int .u64 ((xs.getD i 0 : Nat) : Int))) (hx : ∀ i, xs.getD i 0 < 18446744073709551616) (hl : xs.length < 1000000) (h0 : 0 < xs.length) :
    Calls Tryz.prog 46 #[.slice (some ⟨b, 0, none⟩) xs.length cap] w fun e w' => e = .returned (.string (strB (rowN xs))) ∧ Below w.heap.size w w' := by
  go_enter Tryz.func46, Tryz.ntmps46
  go_wp2_with fail
  go_loopw [3, 8] (fun bv i wr => ∃ k : Nat, k ≤ xs.length ∧ i = .int .i64 k ∧ Hid (OwnB wr w.heap.size bv (rowN (xs.take k))) ∧ Hid ((rowN (xs.take k)).length ≤ 10 * k) ∧ (0 < k → Hid (0 < (rowN (xs.take k)).length)) ∧ Hid (Below w.heap.size w wr)) (fun _ i _ => xs.length - (intOf i).toNat)
  case atStart => exact ⟨0, Nat.zero_le _, rfl, Lib.hid (OwnB.nil _ _), Lib.hid (by simp [rowN]), fun h => absurd h (by omega), Lib.hid (Below.refl _ _)⟩
  case round =>
    obtain ⟨k, hk, rfl, ho, hn, hp, hb⟩ := hrel
    by_cases hlk : k < xs.length
    · have hcell := cell_tr hb.out (hc k hlk)
      have hxk := hx k
      have HS := Lib.hid (rowN_snoc xs k hlk)
      generalize xs.getD k 0 = X at *
      have H10 := Lib.hid (putN_10 hxk)
      have HPP := Lib.hid (putN_pos X)
      generalize rowN (xs.take k) = done at *
      go_wp2_with fail
      go_loopw [3, 5] (fun bv y ww => ∃ (v : Nat) (more : List Nat), v < 18446744073709551616 ∧ y = .int .u64 (v : Int) ∧ Hid (OwnB ww w.heap.size bv (done ++ more)) ∧ Hid (putN X = more ++ putN v) ∧ Hid (Below w.heap.size w ww)) (fun _ y _ => (intOf y).toNat)
      case atStart => exact ⟨X, [], hxk, rfl, Lib.hid (by simpa using ho.out), Lib.hid (by simp), hb⟩
      case round =>
        obtain ⟨v, more, hv, rfl, ho2, hm, hb2⟩ := hrel
        have HL : Hid ((done ++ more).length + 1 < 1000000000000) := Lib.hid (by
          have h1 := hn.out
          have h2 := H10.out
          have h3 := congrArg List.length hm.out
          simp at h3 ⊢
          omega)
        by_cases hlv : v < 128
        · have HM2 : Hid (putN X = more ++ [v]) := Lib.hid (by rw [hm.out, putN_lo hlv])
          go_wp2_with (at_builtin; refine app_B _ rfl _ _ rfl w.heap.size _ (done ++ more) v _ 1 rfl rfl ?c0 ?c1 HL.out ?c3 ?c4)
          case c0 => exact ho2.out.tr (by (repeat (first | with_reducible exact Below.refl _ _ | with_reducible refine kp_alloc ?_ _ | with_reducible refine kp_drew ?_ | with_reducible refine kp_set ?_ (by first | omega | (simp; done) | (simp; omega)) _ | with_reducible refine kp_tr ?_ (by with_reducible assumption))))
          case c1 => simp [byteV]
          case c3 => have := hb2.out.size; simp; omega
          case c4 =>
          intro v' w2 ho3 hg hat
          have H2 : Hid (OwnB w2 w.heap.size v' (done ++ putN X)) := Lib.hid (by rw [HM2.out]; simpa using ho3)
          have H3 : Hid (Below w.heap.size w w2) := Lib.hid (grown_below hg (bel_alloc hb2.out (Nat.le_refl _) _) (Nat.le_refl _) ho2.out.block)
          clear ho3 hg hat
          go_wp2_with fail
          refine ⟨⟨k + 1, by omega, by go_num, Lib.hid (by rw [HS.out]; exact H2.out), Lib.hid ?_, fun _ => Lib.hid ?_, H3⟩, by simp [intOf]; omega⟩
          · have h1 := hn.out
            have h2 := H10.out
            rw [HS.out]
            simp
            omega
          · have h2 := HPP.out
            rw [HS.out]
            simp
            omega
        · have HM2 : Hid (putN X = more ++ [v % 128 + 128] ++ putN (v / 128)) := Lib.hid (by rw [hm.out, putN_hi hlv]; simp)
          generalize hY : v % 128 + 128 = Y at HM2
          have HY := Lib.hid hY
          clear hY
          go_wp2_with (at_builtin; refine app_B _ rfl _ _ rfl w.heap.size _ (done ++ more) Y wr.heap.size 1 rfl rfl ?d0 ?d1 HL.out ?d3 ?d4)
          case d0 => exact ho2.out.tr (by (repeat (first | with_reducible exact Below.refl _ _ | with_reducible refine kp_alloc ?_ _ | with_reducible refine kp_drew ?_ | with_reducible refine kp_set ?_ (by first | omega | (simp; done) | (simp; omega)) _ | with_reducible refine kp_tr ?_ (by with_reducible assumption))))
          case d1 => have := HY.out; simp [byteV]; omega
          case d3 => have := hb2.out.size; simp; omega
          case d4 =>
          intro v' w2 ho3 hg hat
          have H2 : Hid (OwnB w2 w.heap.size v' (done ++ (more ++ [Y]))) := Lib.hid (by simpa using ho3)
          have H3 : Hid (Below w.heap.size w w2) := Lib.hid (grown_below hg (bel_alloc hb2.out (Nat.le_refl _) _) (Nat.le_refl _) ho2.out.block)
          clear ho3 hg hat
          go_wp2_with fail
          exact ⟨⟨v / 128, more ++ [Y], by omega, by first | rfl | go_num, H2, HM2, H3⟩, by simp [intOf]; omega⟩
    · obtain rfl : k = xs.length := by omega
      rw [List.take_length] at ho hp
      have hs := ho.out.str  (hp (by omega)).out
      go_wp2_with fail
      go_ret
      exact ⟨rfl, hb.out⟩
theorem put_any (v : Nat) (w : World) (hv : v < 18446744073709551616) :
    Calls Tryz.prog 45 #[.int .u64 v] w fun e w' => e = .returned (.string (strB (putN v))) ∧ Below w.heap.size w w' := by
  go_enter Tryz.func45, Tryz.ntmps45
  go_wp2_with fail
  refine (row_any w.heap.size 1 [v] _ (fun i hi => ?_) (fun i => ?_) (by simp) (by simp)).mono ?_
  · have : i = 0 := by simp at hi; exact hi
    subst this
    simp
  · rcases i with _ | i
    · exact hv
    · simp
  rintro e w2 ⟨rfl, hb⟩
  have e1 : rowN [v] = putN v := by simp [rowN]
  rw [e1]
  have hB : Below w.heap.size w w2 := by (repeat (first | with_reducible exact Below.refl _ _ | with_reducible refine kp_alloc ?_ _ | with_reducible refine kp_drew ?_ | with_reducible refine kp_set ?_ (by first | omega | (simp; done) | (simp; omega)) _ | with_reducible refine kp_tr ?_ (by with_reducible assumption)))
  clear hb
  go_wp2_with fail
  go_ret
  exact ⟨rfl, hB⟩
end Go.Proofs.YtpgjploaliefdaaGreat.fr

namespace Go.Proofs.YtpgjploaliefdaaGreat.fr
open Go.RowKit Go.Proofs.YtpgjploaliefdaaGreat.cm Go.Proofs.YtpgjploaliefdaaGreat.cw
set_option linter.unusedVariables false
set_option linter.unusedSimpArgs false
theorem strB_size (l : List Nat) : (strB l).size = l.length := by unfold strB; rw [strOfNums_size]; simp
/-- A frame's bytes ahead of its sum; the frame. -/
def headS (id : Nat) (body : ByteArray) : ByteArray := strB [id] ++ strB (putN body.size) ++ body
def frameS (id : Nat) (body : ByteArray) : ByteArray := headS id body ++ halfS (sumN (bytesN (headS id body)))
theorem conv1 (b : Nat) (x : Nat) (W : World) (h : W.cell? ⟨b, 0, none⟩ = some (.int .u8 (x : Int))) :
    (convert 91 9 (.slice (some ⟨b, 0, none⟩) 1 1)).run Tryz.prog W = .ok (.string (strB [x])) W := by
  refine run_convert_bytes_arg (P := Tryz.prog) W 91 5 Tryz.underlying91 Tryz.underlying5 b 0 1 1 [(x : Int)] rfl (fun i hi => ?_) 9 Tryz.underlying9
  obtain rfl : i = 0 := by omega
  exact h
theorem add_run (A B : ByteArray) (h : A.size + B.size < 1000000000000) : ∀ w : World, (Op.stringOp .add A B).run Tryz.prog w = .ok (.string (A ++ B)) w := fun w => run_string_add_sum w A B (by omega)
set_option maxRecDepth 100000 in
set_option maxHeartbeats 4000000 in
theorem fput_any (id : Nat) (body : ByteArray) (w : World) (h1 : 1 ≤ id) (h2 : id ≤ 127) (hs : body.size < 100000000000) :
    Calls Tryz.prog 60 #[.int .i64 id, .string body] w fun e w' => e = .returned (.tuple #[.string (frameS id body), .int .i64 0]) ∧ Below w.heap.size w w' := by
  have hw8 : IntKind.u8.wrap (id : Int) = (id : Int) := wr_u8 _ (by omega)
  have hw64 : IntKind.u64.wrap (body.size : Int) = (body.size : Int) := wr_u64 _ (by omega)
  have hbig : ¬ 127 < (id : Int) := by omega
  have hcv : ∀ (n : Nat) (W' : World), W'.cell? ⟨n, 0, none⟩ = some (.int .u8 (id : Int)) → (convert 91 9 (.slice (some ⟨n, 0, none⟩) 1 1)).run Tryz.prog W' = .ok (.string (strB [id])) W' := fun n W' h => conv1 _ id _ h
  have hAs : (strB [id]).size = 1 := strB_size _
  have hBs : (strB (putN body.size)).size ≤ 10 := by rw [strB_size]; exact putN_10 (by omega)
  have HF : Hid (frameS id body = headS id body ++ halfS (sumN (bytesN (headS id body)))) := Lib.hid rfl
  have HH : Hid (headS id body = strB [id] ++ strB (putN body.size) ++ body) := Lib.hid rfl
  have HP := Lib.hid (put_any  body.size)
  generalize strB [id] = A at *
  generalize strB (putN body.size) = B at *
  have ad1 := add_run  A B (by omega)
  have ad2 := add_run  (A ++ B) body (by simp; omega)
  have hHs : (A ++ B ++ body).size ≤ maxLen := by unfold maxLen; simp; omega
  have hS := moreN_lt (bytesN (A ++ B ++ body)) (c := 0) (by omega) (bytesN_lt _)
  change sumN (bytesN (A ++ B ++ body)) < _ at hS
  generalize hX : sumN (bytesN (A ++ B ++ body)) = X at *
  have HX := Lib.hid hX
  have HZ := Lib.hid (putHalf_any  X)
  have hZs : (halfS X).size = 4 := by unfold halfS; rw [strB_size]; simp [le4]
  have HF2 : Hid (frameS id body = A ++ B ++ body ++ halfS X) := Lib.hid (by rw [HF.out, HH.out, hX])
  clear hX HF HH
  generalize halfS X = Z at *
  have ad3 := add_run  (A ++ B ++ body) Z (by simp; omega)
  go_enter Tryz.func60, Tryz.ntmps60
  go_wp2_with fail
  go_region_with
    (first
      | (go_at_call 45; refine (HP.out _ (by omega)).mono ?_; rintro e w1 ⟨rfl, k1⟩; obtain ⟨k1c, k1f⟩ := bcell k1; have k1z := k1.size))
  all_goals
    clear hcv HP ad1 ad2
    go_wp2_with fail
    refine (sum_any _ _ hHs).mono ?_
    rintro e w2 ⟨rfl, k2⟩
    rw [HX.out]
    go_wp2_with fail
    refine (HZ.out _ hS).mono ?_
    rintro e w3 ⟨rfl, k3⟩
    go_wp2_with fail
    go_ret2
    exact ⟨by rw [HF2.out]; rfl, by (repeat (first | with_reducible exact Below.refl _ _ | with_reducible refine kp_alloc ?_ _ | with_reducible refine kp_drew ?_ | with_reducible refine kp_set ?_ (by first | omega | (simp; done) | (simp; omega)) _ | with_reducible refine kp_tr ?_ (by with_reducible assumption)))⟩
theorem fput_bad (id : Int) (body : ByteArray) (w : World) (h : id < 1 ∨ 127 < id) :
    Calls Tryz.prog 60 #[.int .i64 id, .string body] w fun e w' => e = .returned (.tuple #[.string ⟨#[]⟩, .int .i64 1]) ∧ Below w.heap.size w w' := by
  by_cases h1 : id < 1
  · go_enter Tryz.func60, Tryz.ntmps60
    go_wp2_with fail
    all_goals first | (exfalso; omega) | (go_ret2; exact ⟨rfl, by (repeat (first | with_reducible exact Below.refl _ _ | with_reducible refine kp_alloc ?_ _ | with_reducible refine kp_drew ?_ | with_reducible refine kp_set ?_ (by first | omega | (simp; done) | (simp; omega)) _ | with_reducible refine kp_tr ?_ (by with_reducible assumption)))⟩)
  · have h2 : 127 < id := by omega
    have h3 : 1 ≤ id := by omega
    go_enter Tryz.func60, Tryz.ntmps60
    go_wp2_with fail
    all_goals first | (exfalso; omega) | (go_ret2; exact ⟨rfl, by (repeat (first | with_reducible exact Below.refl _ _ | with_reducible refine kp_alloc ?_ _ | with_reducible refine kp_drew ?_ | with_reducible refine kp_set ?_ (by first | omega | (simp; done) | (simp; omega)) _ | with_reducible refine kp_tr ?_ (by with_reducible assumption)))⟩)
end Go.Proofs.YtpgjploaliefdaaGreat.fr

namespace Go.Proofs.YtpgjploaliefdaaGreat.fr
open Go.RowKit Go.Proofs.YtpgjploaliefdaaGreat.cm Go.Proofs.YtpgjploaliefdaaGreat.cw Go.Proofs.YtpgjploaliefdaaGreat.ga Go.Proofs.YtpgjploaliefdaaGreat.gr
set_option linter.unusedVariables false
set_option linter.unusedSimpArgs false
def encF (f : Int × ByteArray) : List Value := [.int .i64 f.1, .string f.2]
theorem info_frame : (Tryz.prog.info? 77).map (fun i => (i.zero, i.size, i.bytes)) = some (some (.agg #[.int .i64 0, .string ⟨#[]⟩]), 2, 24) := by kernel_rfl
theorem encF_one {f : Int × ByteArray} : ∀ u ∈ encF f, u.oneCell' = true := by intro u hu; simp [encF] at hu; rcases hu with rfl | rfl <;> rfl
theorem app_frame {ops : Array Oper} {rest : List Oper} {o : Oper} {a : Act} {Q : Exit → Act → World → Prop} (w : World) (hw : Region.wanted o (yielded ops a.tmps) = true) (s x : Operand)
    (ho : o.op = .call { callee := .builtin .append, args := #[s, x], argTypes := #[75, 75] })
    (B : Nat) (v u : Value) (xs : List (Int × ByteArray)) (y : Int × ByteArray) (hs : a.eval s = v) (hx : a.eval x = u) (hown : OwnR 77 2 encF w B v xs) (hys : RIn 2 encF w u [y]) (hbig : xs.length + 1 < 100000000000) (hB : B ≤ w.heap.size)
    (h : ∀ v' w', OwnR 77 2 encF w' B v' (xs ++ [y]) → w.grownBy w' v.ownBlock → (v'.ownBlock = v.ownBlock ∨ v'.ownBlock = some w.heap.size) → wpList Tryz.prog ops Q rest (a.put o.dst v') w') : wpList Tryz.prog ops Q (o :: rest) a w :=
  app_g (α := Int × ByteArray) (k := 2) (en := encF) w hw s x _ ho (fun _ => rfl) (fun _ => encF_one) _ 24 Tryz.underlying75 info_frame rfl (by decide) (by decide) B v u xs [y] hs hx hown hys hbig hB h
abbrev GFr := Int × ByteArray
def idOk (f : GFr) : Prop := 1 ≤ f.1 ∧ f.1 ≤ 127
instance (f : GFr) : Decidable (idOk f) := by unfold idOk; infer_instance
def bytesU (f : GFr) : List UInt8 := (frameS f.1.toNat f.2).data.toList
def joinU (fs : List GFr) : List UInt8 := fs.flatMap bytesU
/-- What frames.Join says. -/
def joinR (fs : List GFr) : ByteArray × Int := if ∀ f ∈ fs, idOk f then (⟨(joinU fs).toArray⟩, 0) else (⟨#[]⟩, 1)
theorem frameS_size (id : Nat) (body : ByteArray) (hs : body.size < 100000000000) : (frameS id body).size ≤ body.size + 15 := by
  have h1 : (strB [id]).size = 1 := strB_size _
  have h2 : (strB (putN body.size)).size ≤ 10 := by rw [strB_size]; exact putN_10 (by omega)
  have h3 : ∀ X, (halfS X).size = 4 := fun X => by unfold halfS; rw [strB_size]; simp [le4]
  unfold frameS headS
  simp only [ByteArray.size_append, h1, h3]
  omega
theorem joinU_snoc (fs : List GFr) (k : Nat) (h : k < fs.length) : joinU (fs.take (k + 1)) = joinU (fs.take k) ++ bytesU (fs.getD k (0, ⟨#[]⟩)) := by
  unfold joinU
  rw [List.take_add_one, List.flatMap_append]
  simp [List.getD, h]
set_option maxRecDepth 100000 in
set_option maxHeartbeats 8000000 in
theorem join_any (v : Value) (fs : List GFr) (w : World) (hv : RIn 2 encF w v fs) (hl : fs.length ≤ 10000) (hs : ∀ f ∈ fs, f.2.size ≤ 100000) (h63 : ∀ f ∈ fs, -9223372036854775808 ≤ f.1 ∧ f.1 < 9223372036854775808) :
    Calls Tryz.prog 33 #[v] w fun e w' => e = .returned (.tuple #[.string (joinR fs).1, .int .i64 (joinR fs).2]) ∧ Below w.heap.size w w' := by
  obtain ⟨ad, b, off, cap, rfl, h1, h2, h3, h4, h5, hin⟩ := hv.form
  have HV := Lib.hid hin
  clear hv hin
  have HS := Lib.hid hs
  have H63 := Lib.hid h63
  clear hs h63
  have HJ : Hid (joinR fs = if ∀ f ∈ fs, idOk f then (⟨(joinU fs).toArray⟩, 0) else (⟨#[]⟩, 1)) := Lib.hid rfl
  go_enter Tryz.func33, Tryz.ntmps33
  go_wp2_with fail
  go_loopw [11] (fun i wr => ∃ k : Nat, k ≤ fs.length ∧ i = .int .i64 k ∧ Hid (∀ j, j < k → idOk (fs.getD j (0, ⟨#[]⟩))) ∧ Hid (Bld w.heap.size w.heap.size (joinU (fs.take k)) wr) ∧ Hid ((joinU (fs.take k)).length ≤ k * 100015) ∧ Hid (Below w.heap.size w wr) ∧ w.heap.size ≤ wr.heap.size) (fun i _ => fs.length - (intOf i).toNat)
  case atStart => exact ⟨0, Nat.zero_le _, rfl, Lib.hid (fun j hj => absurd hj (by omega)), Lib.hid (Bld.fresh w), Lib.hid (by simp [joinU]), Lib.hid (by (repeat (first | with_reducible exact Below.refl _ _ | with_reducible refine kp_alloc ?_ _ | with_reducible refine kp_drew ?_ | with_reducible refine kp_set ?_ (by first | omega | (simp; done) | (simp; omega)) _ | with_reducible refine kp_tr ?_ (by with_reducible assumption)))), by simp⟩
  case round =>
    obtain ⟨k, hk, rfl, hok, hB, hlen, hb, hwz⟩ := hrel
    by_cases hlk : k < fs.length
    · obtain rfl := h1 (by omega)
      have hx : fs[k]? = some (fs.getD k (0, ⟨#[]⟩)) := by simp [List.getD, hlk]
      have hmem : fs.getD k (0, ⟨#[]⟩) ∈ fs := by simp [List.getD, hlk]
      have hsz := HS.out _ hmem
      obtain ⟨i1, i2⟩ := H63.out _ hmem
      have e0 := cell_tr hb.out (HV.out.at hx 0 _ rfl)
      have e1 := cell_tr hb.out (HV.out.at hx 1 _ rfl)
      rw [Nat.add_zero] at e0
      have hlt := h5 (by omega)
      have hsn := Lib.hid (joinU_snoc fs k hlk)
      have hbad : Hid (¬ idOk (fs.getD k (0, ⟨#[]⟩)) → joinR fs = (⟨#[]⟩, 1)) := Lib.hid (fun h => by rw [HJ.out, if_neg (fun h2 => h (h2 _ hmem))])
      have hnext : Hid (idOk (fs.getD k (0, ⟨#[]⟩)) → ∀ j, j < k + 1 → idOk (fs.getD j (0, ⟨#[]⟩))) := Lib.hid (fun h j hj => by
        by_cases e : j = k
        · rw [e]; exact h
        · exact hok.out j (by omega))
      clear hx hmem hok
      generalize fs.getD k (0, ⟨#[]⟩) = f at *
      obtain ⟨id, body⟩ := f
      dsimp only at *
      generalize joinU (fs.take k) = done at *
      by_cases hid : 1 ≤ id ∧ id ≤ 127
      · obtain ⟨n, rfl⟩ := Int.eq_ofNat_of_zero_le (show 0 ≤ id by omega)
        have HP := Lib.hid (fun W => fput_any  n body W (by omega) (by omega) (by omega))
        have hfs := frameS_size n body (by omega)
        have hsn2 : Hid (joinU (fs.take (k + 1)) = done ++ (frameS n body).data.toList) := Lib.hid (by rw [hsn.out]; rfl)
        have hbl : (frameS n body).data.toList.length = (frameS n body).size := Array.length_toList
        have hnx := Lib.hid (hnext.out hid)
        clear hsn hbad hnext
        generalize frameS n body = S at *
        go_wp2_with fail
        refine (HP.out _).mono ?_; rintro e' w1 ⟨rfl, k1⟩
        have HB1 : Hid (Bld w.heap.size w.heap.size done w1) := Lib.hid (hB.out.tr (by (repeat (first | with_reducible exact Below.refl _ _ | with_reducible refine kp_alloc ?_ _ | with_reducible refine kp_drew ?_ | with_reducible refine kp_set ?_ (by first | omega | (simp; done) | (simp; omega)) _ | with_reducible refine kp_tr ?_ (by with_reducible assumption)))))
        have hb1 : Hid (Below w.heap.size w w1) := Lib.hid (by have := hb.out; (repeat (first | with_reducible exact Below.refl _ _ | with_reducible refine kp_alloc ?_ _ | with_reducible refine kp_drew ?_ | with_reducible refine kp_set ?_ (by first | omega | (simp; done) | (simp; omega)) _ | with_reducible refine kp_tr ?_ (by with_reducible assumption))))
        have hlen2 := hlen.out
        have hL : Hid ((done ++ S.data.toList).length ≤ (k + 1) * 100015) := Lib.hid (by rw [List.length_append, hbl]; omega)
        have hdl : done.length + S.size < 100000000000000 := by omega
        have hws := hb1.out.size
        clear k1 hB hb hlen HP hlen2 hbl
        go_wp2_with fail
        refine (write_any w.heap.size w.heap.size done S _ HB1.out hdl hws).mono ?_; rintro e' w2 ⟨rfl, hB2, k2⟩
        have HB2 := Lib.hid hB2
        have hb2 : Hid (Below w.heap.size w w2) := Lib.hid (hb1.out.trans k2)
        have hwz2 := hb2.out.size
        clear hB2 k2 HB1 hb1 hws hwz
        go_wp2_with fail
        exact ⟨⟨k + 1, by omega, by go_num, hnx, Lib.hid (by rw [hsn2.out]; exact HB2.out), Lib.hid (by rw [hsn2.out]; exact hL.out), hb2, hwz2⟩, by simp [intOf]; omega⟩
      · have HB := Lib.hid (hbad.out hid)
        have HP := Lib.hid (fun W => fput_bad  id body W (by omega))
        clear hsn hbad hnext
        go_wp2_with fail
        refine (HP.out _).mono ?_; rintro e' w1 ⟨rfl, k1⟩
        have hb1 : Hid (Below w.heap.size w w1) := Lib.hid (by have := hb.out; (repeat (first | with_reducible exact Below.refl _ _ | with_reducible refine kp_alloc ?_ _ | with_reducible refine kp_drew ?_ | with_reducible refine kp_set ?_ (by first | omega | (simp; done) | (simp; omega)) _ | with_reducible refine kp_tr ?_ (by with_reducible assumption))))
        clear k1
        go_wp2_with fail
        go_ret2
        exact ⟨by rw [HB.out]; rfl, hb1.out⟩
    · obtain rfl : k = fs.length := by omega
      rw [List.take_length] at hB
      have HR : Hid (joinR fs = (⟨(joinU fs).toArray⟩, 0)) := Lib.hid (by
        rw [HJ.out, if_pos]
        intro f hf
        obtain ⟨i, hi, rfl⟩ := List.getElem_of_mem hf
        have := hok.out i hi
        simpa [List.getD, hi] using this)
      go_wp2_with fail
      refine (string_any w.heap.size w.heap.size (joinU fs) _ hB.out hwz).mono ?_; rintro e' w1 ⟨rfl, hB1, k1⟩
      have hb1 : Hid (Below w.heap.size w w1) := Lib.hid (hb.out.trans k1)
      clear hB1 k1 hB hb
      go_wp2_with fail
      go_ret2
      exact ⟨by rw [HR.out]; rfl, hb1.out⟩
end Go.Proofs.YtpgjploaliefdaaGreat.fr
