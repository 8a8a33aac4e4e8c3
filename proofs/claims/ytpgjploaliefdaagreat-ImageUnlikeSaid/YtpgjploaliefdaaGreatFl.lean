/- frames.Join. LONE=1. No conditions. -/
import Derived.Test.YtpgjploaliefdaaGreatFh
import Derived.Test.YtpgjploaliefdaaGreatGa
import Derived.Test.YtpgjploaliefdaaGreatGr
namespace Go.Proofs.YtpgjploaliefdaaGreat.fr
open Go.RowKit cm cw ga gr
set_option linter.unusedVariables false
set_option linter.unusedSimpArgs false
def encF (f : Int × ByteArray) : List Value := [.int .i64 f.1, .string f.2]
theorem info_frame : (Tryz.prog.info? 77).map (fun i => (i.zero, i.size, i.bytes)) = some (some (.agg #[.int .i64 0, .string ⟨#[]⟩]), 2, 24) := by kernel_rfl
theorem encF_one {f : Int × ByteArray} : ∀ u ∈ encF f, u.oneCell' = true := by intro u hu; simp [encF] at hu; rcases hu with rfl | rfl <;> rfl
theorem app_frame {ops : Array Oper} {rest : List Oper} {o : Oper} {a : Act} {Q : Exit → Act → World → Prop} (w : World) (hw : Region.wanted o (yielded ops a.tmps) = true) (s x : Operand)
  (ho : o.op = .call { callee := .builtin .append, args := #[s, x], argTypes := #[75, 75] })
  (B : Nat) (v u : Value) (xs : List (Int × ByteArray)) (y : Int × ByteArray) (hs : a.eval s = v) (hx : a.eval x = u) (hown : OwnR 77 2 encF w B v xs) (hys : RIn 2 encF w u [y]) (hbig : xs.length + 1 < 100000000000) (hB : B ≤ w.heap.size)
  (h : ∀ v' w', OwnR 77 2 encF w' B v' (xs ++ [y]) → w.grownBy w' v.ownBlock → (v'.ownBlock = v.ownBlock ∨ v'.ownBlock = some w.heap.size) → wpList Tryz.prog ops Q rest (a.put o.dst v') w') : wpList Tryz.prog ops Q (o :: rest) a w :=
 app_g (α := Int × ByteArray) (k := 2) (en := encF) w hw s x _ ho (fun _ => rfl) (fun _ => encF_one) _ 24 Tryz.underlying75 info_frame rfl (by decide) (by decide) B v u xs [y] hs hx hown hys hbig hB h
abbrev GFr := Int × ByteArray
def idOk (f : GFr) : Prop := 1 ≤ f.1 ∧ f.1 ≤ 127
instance (f : GFr) : Decidable (idOk f) := by unfold idOk; infer_instance
def bytesU (f : GFr) : List UInt8 := (frameS f.1.toNat f.2).data.toList
def joinU (fs : List GFr) : List UInt8 := fs.flatMap bytesU
def joinR (fs : List GFr) : ByteArray × Int := if ∀ f ∈ fs, idOk f then (⟨(joinU fs).toArray⟩, 0) else (⟨#[]⟩, 1)
theorem frameS_size (id : Nat) (body : ByteArray) (hs : body.size < 100000000000) : (frameS id body).size ≤ body.size + 15 := by
 have h1 : (strB [id]).size = 1 := strB_size _
 have h2 : (strB (putN body.size)).size ≤ 10 := by rw [strB_size]; exact putN_10 (by omega)
 have h3 : ∀ X, (halfS X).size = 4 := fun X => by unfold halfS; rw [strB_size]; simp [le4]
 unfold frameS headS
 simp only [ByteArray.size_append, h1, h3]
 omega
theorem joinU_snoc (fs : List GFr) (k : Nat) (h : k < fs.length) : joinU (fs.take (k + 1)) = joinU (fs.take k) ++ bytesU (fs.getD k (0, ⟨#[]⟩)) := by
 unfold joinU
 rw [List.take_add_one, List.flatMap_append]
 simp [List.getD, h]
set_option maxRecDepth 100000 in
set_option maxHeartbeats 8000000 in
theorem join_any (v : Value) (fs : List GFr) (w : World) (hv : RIn 2 encF w v fs) (hl : fs.length ≤ 10000) (hs : ∀ f ∈ fs, f.2.size ≤ 100000) (h63 : ∀ f ∈ fs, -9223372036854775808 ≤ f.1 ∧ f.1 < 9223372036854775808) :
  Calls Tryz.prog 33 #[v] w fun e w' => e = .returned (.tuple #[.string (joinR fs).1, .int .i64 (joinR fs).2]) ∧ Below w.heap.size w w' := by
 obtain ⟨ad, b, off, cap, rfl, h1, h2, h3, h4, h5, hin⟩ := hv.form
 have HV := Lib.hid hin
 clear hv hin
 have HS := Lib.hid hs
 have H63 := Lib.hid h63
 clear hs h63
 have HJ : Hid (joinR fs = if ∀ f ∈ fs, idOk f then (⟨(joinU fs).toArray⟩, 0) else (⟨#[]⟩, 1)) := Lib.hid rfl
 go_enter Tryz.func33, Tryz.ntmps33
 go_wp2_with fail
 go_loopw [11] (fun i wr => ∃ k : Nat, k ≤ fs.length ∧ i = .int .i64 k ∧ Hid (∀ j, j < k → idOk (fs.getD j (0, ⟨#[]⟩))) ∧ Hid (Bld w.heap.size w.heap.size (joinU (fs.take k)) wr) ∧ Hid ((joinU (fs.take k)).length ≤ k * 100015) ∧ Hid (Below w.heap.size w wr) ∧ w.heap.size ≤ wr.heap.size) (fun i _ => fs.length - (intOf i).toNat)
 case atStart => exact ⟨0, Nat.zero_le _, rfl, Lib.hid (fun j hj => absurd hj (by omega)), Lib.hid (Bld.fresh w), Lib.hid (by simp [joinU]), Lib.hid (by exact bm), by simp⟩
 case round =>
  obtain ⟨k, hk, rfl, hok, hB, hlen, hb, hwz⟩ := hrel
  by_cases hlk : k < fs.length
  ·obtain rfl := h1 (by omega)
   have hx : fs[k]? = some (fs.getD k (0, ⟨#[]⟩)) := by simp [List.getD, hlk]
   have hmem : fs.getD k (0, ⟨#[]⟩) ∈ fs := by simp [List.getD, hlk]
   have hsz := HS.out _ hmem
   obtain ⟨i1, i2⟩ := H63.out _ hmem
   have e0 := cell_tr hb.out (HV.out.at hx 0 _ rfl)
   have e1 := cell_tr hb.out (HV.out.at hx 1 _ rfl)
   rw [Nat.add_zero] at e0
   have hlt := h5 (by omega)
   have hsn := Lib.hid (joinU_snoc fs k hlk)
   have hbad : Hid (¬ idOk (fs.getD k (0, ⟨#[]⟩)) → joinR fs = (⟨#[]⟩, 1)) := Lib.hid (fun h => by rw [HJ.out, if_neg (fun h2 => h (h2 _ hmem))])
   have hnext : Hid (idOk (fs.getD k (0, ⟨#[]⟩)) → ∀ j, j < k + 1 → idOk (fs.getD j (0, ⟨#[]⟩))) := Lib.hid (fun h j hj => by
    by_cases e : j = k
    ·rw [e]; exact h
    ·exact hok.out j (by omega))
   clear hx hmem hok
   generalize fs.getD k (0, ⟨#[]⟩) = f at *
   obtain ⟨id, body⟩ := f
   dsimp only at *
   generalize joinU (fs.take k) = done at *
   by_cases hid : 1 ≤ id ∧ id ≤ 127
   ·obtain ⟨n, rfl⟩ := Int.eq_ofNat_of_zero_le (show 0 ≤ id by omega)
    have HP := Lib.hid (fun W => fput_any  n body W (by omega) (by omega) (by omega))
    have hfs := frameS_size n body (by omega)
    have hsn2 : Hid (joinU (fs.take (k + 1)) = done ++ (frameS n body).data.toList) := Lib.hid (by rw [hsn.out]; rfl)
    have hbl : (frameS n body).data.toList.length = (frameS n body).size := Array.length_toList
    have hnx := Lib.hid (hnext.out hid)
    clear hsn hbad hnext
    generalize frameS n body = S at *
    go_wp2_with fail
    refine (HP.out _).mono ?_; rintro e' w1 ⟨rfl, k1⟩
    have HB1 : Hid (Bld w.heap.size w.heap.size done w1) := Lib.hid (hB.out.tr (by exact bm))
    have hb1 : Hid (Below w.heap.size w w1) := Lib.hid (by have := hb.out; exact bm)
    have hlen2 := hlen.out
    have hL : Hid ((done ++ S.data.toList).length ≤ (k + 1) * 100015) := Lib.hid (by rw [List.length_append, hbl]; omega)
    have hdl : done.length + S.size < 100000000000000 := by omega
    have hws := hb1.out.size
    clear k1 hB hb hlen HP hlen2 hbl
    go_wp2_with fail
    refine (write_any w.heap.size w.heap.size done S _ HB1.out hdl hws).mono ?_; rintro e' w2 ⟨rfl, hB2, k2⟩
    have HB2 := Lib.hid hB2
    have hb2 : Hid (Below w.heap.size w w2) := Lib.hid (hb1.out.trans k2)
    have hwz2 := hb2.out.size
    clear hB2 k2 HB1 hb1 hws hwz
    go_wp2_with fail
    exact ⟨⟨k + 1, by omega, by go_num, hnx, Lib.hid (by rw [hsn2.out]; exact HB2.out), Lib.hid (by rw [hsn2.out]; exact hL.out), hb2, hwz2⟩, by simp [intOf]; omega⟩
   ·have HB := Lib.hid (hbad.out hid)
    have HP := Lib.hid (fun W => fput_bad  id body W (by omega))
    clear hsn hbad hnext
    go_wp2_with fail
    refine (HP.out _).mono ?_; rintro e' w1 ⟨rfl, k1⟩
    have hb1 : Hid (Below w.heap.size w w1) := Lib.hid (by have := hb.out; exact bm)
    clear k1
    go_wp2_with fail
    go_ret2
    exact ⟨by rw [HB.out]; rfl, hb1.out⟩
  ·obtain rfl : k = fs.length := by omega
   rw [List.take_length] at hB
   have HR : Hid (joinR fs = (⟨(joinU fs).toArray⟩, 0)) := Lib.hid (by
    rw [HJ.out, if_pos]
    intro f hf
    obtain ⟨i, hi, rfl⟩ := List.getElem_of_mem hf
    have := hok.out i hi
    simpa [List.getD, hi] using this)
   go_wp2_with fail
   refine (string_any w.heap.size w.heap.size (joinU fs) _ hB.out hwz).mono ?_; rintro e' w1 ⟨rfl, hB1, k1⟩
   have hb1 : Hid (Below w.heap.size w w1) := Lib.hid (hb.out.trans k1)
   clear hB1 k1 hB hb
   go_wp2_with fail
   go_ret2
   exact ⟨by rw [HR.out]; rfl, hb1.out⟩
end Go.Proofs.YtpgjploaliefdaaGreat.fr
