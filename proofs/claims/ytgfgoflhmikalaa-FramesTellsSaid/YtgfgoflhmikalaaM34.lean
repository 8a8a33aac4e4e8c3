/- Part 34 of what the proofs stand on: lemmas on worlds, on goroutines, contracts of functions. No conditions. -/
import Derived.Test.YtgfgoflhmikalaaM33
import Derived.WalkKit
import Derived.ProofKit
import Derived.OpenShut
import Derived.Lib.SmallJoins
import Derived.Deep.Slices
import Derived.Conc.HoldsTime
import Derived.Deep.RegionHeld3
namespace Go.Proofs.Ytgfgoflhmikalaa.fr
open Go.RowKit Go.Proofs.Ytgfgoflhmikalaa.cm Go.Proofs.Ytgfgoflhmikalaa.cw Go.Proofs.Ytgfgoflhmikalaa.ga Go.Proofs.Ytgfgoflhmikalaa.gr
set_option linter.unusedVariables false
set_option linter.unusedSimpArgs false
variable {HC : Code}
attribute [local irreducible] Go.Proofs.Ytgfgoflhmikalaa.par.loneP
abbrev GFr := Int × ByteArray
def idOk (f : GFr) : Prop := 1 ≤ f.1 ∧ f.1 ≤ 127
instance (f : GFr) : Decidable (idOk f) := by unfold idOk; infer_instance
def bytesU (f : GFr) : List UInt8 := (frameS f.1.toNat f.2).data.toList
def joinU (fs : List GFr) : List UInt8 := fs.flatMap bytesU
/-- What frames.Join says. -/
def joinR (fs : List GFr) : ByteArray × Int := if ∀ f ∈ fs, idOk f then (⟨(joinU fs).toArray⟩, 0) else (⟨#[]⟩, 1)
theorem frameS_size (id : Nat) (body : ByteArray) (hs : body.size < 100000000000) : (frameS id body).size ≤ body.size + 15 := by
  have h1 : (strB [id]).size = 1 := strB_size _
  have h2 : (strB (putN body.size)).size ≤ 10 := by rw [strB_size]; exact putN_10 (by omega)
  have h3 : ∀ X, (halfS X).size = 4 := fun X => by unfold halfS; rw [strB_size]; simp [le4]
  unfold frameS headS
  simp only [ByteArray.size_append, h1, h3]
  omega
theorem joinU_snoc (fs : List GFr) (k : Nat) (h : k < fs.length) : joinU (fs.take (k + 1)) = joinU (fs.take k) ++ bytesU (fs.getD k (0, ⟨#[]⟩)) := by
  unfold joinU
  rw [List.take_add_one, List.flatMap_append]
  simp [List.getD, h]
set_option maxRecDepth 100000 in
set_option maxHeartbeats 8000000 in
theorem join_any (v : Value) (fs : List GFr) (w : World) (hv : RIn 2 encF w v fs) (hl : fs.length ≤ 10000) (hs : ∀ f ∈ fs, f.2.size ≤ 100000) (h63 : ∀ f ∈ fs, -9223372036854775808 ≤ f.1 ∧ f.1 < 9223372036854775808) :
    Calls (Go.Proofs.Ytgfgoflhmikalaa.par.loneP HC) 11 #[v] w fun e w' => e = .returned (.tuple #[.string (joinR fs).1, .int .i64 (joinR fs).2]) ∧ Below w.heap.size w w' := by
  obtain ⟨ad, b, off, cap, rfl, h1, h2, h3, h4, h5, hin⟩ := hv.form
  have HV := Lib.hid hin
  clear hv hin
  have HS := Lib.hid hs
  have H63 := Lib.hid h63
  clear hs h63
  have HJ : Hid (joinR fs = if ∀ f ∈ fs, idOk f then (⟨(joinU fs).toArray⟩, 0) else (⟨#[]⟩, 1)) := Lib.hid rfl
  go_enter (Go.Proofs.Ytgfgoflhmikalaa.par.lfun11 (H := HC)), Try.ntmps11
  go_wp2_with fail
  go_loopw [11] (fun i wr => ∃ k : Nat, k ≤ fs.length ∧ i = .int .i64 k ∧ Hid (∀ j, j < k → idOk (fs.getD j (0, ⟨#[]⟩))) ∧ Hid (Bld w.heap.size w.heap.size (joinU (fs.take k)) wr) ∧ Hid ((joinU (fs.take k)).length ≤ k * 100015) ∧ Hid (Below w.heap.size w wr) ∧ w.heap.size ≤ wr.heap.size) (fun i _ => fs.length - (intOf i).toNat)
  case atStart => exact ⟨0, Nat.zero_le _, rfl, Lib.hid (fun j hj => absurd hj (by omega)), Lib.hid (Bld.fresh w), Lib.hid (by simp [joinU]), Lib.hid (by (repeat (first | with_reducible exact Below.refl _ _ | with_reducible refine kp_alloc ?_ _ | with_reducible refine kp_drew ?_ | with_reducible refine kp_set ?_ (by first | omega | (simp; done) | (simp; omega)) _ | with_reducible refine kp_tr ?_ (by with_reducible assumption)))), by simp⟩
  case round =>
    obtain ⟨k, hk, rfl, hok, hB, hlen, hb, hwz⟩ := hrel
    by_cases hlk : k < fs.length
    · obtain rfl := h1 (by omega)
      have hx : fs[k]? = some (fs.getD k (0, ⟨#[]⟩)) := by simp [List.getD, hlk]
      have hmem : fs.getD k (0, ⟨#[]⟩) ∈ fs := by simp [List.getD, hlk]
      have hsz := HS.out _ hmem
      obtain ⟨i1, i2⟩ := H63.out _ hmem
      have e0 := cell_tr hb.out (HV.out.at hx 0 _ rfl)
      have e1 := cell_tr hb.out (HV.out.at hx 1 _ rfl)
      rw [Nat.add_zero] at e0
      have hlt := h5 (by omega)
      have hsn := Lib.hid (joinU_snoc fs k hlk)
      have hbad : Hid (¬ idOk (fs.getD k (0, ⟨#[]⟩)) → joinR fs = (⟨#[]⟩, 1)) := Lib.hid (fun h => by rw [HJ.out, if_neg (fun h2 => h (h2 _ hmem))])
      have hnext : Hid (idOk (fs.getD k (0, ⟨#[]⟩)) → ∀ j, j < k + 1 → idOk (fs.getD j (0, ⟨#[]⟩))) := Lib.hid (fun h j hj => by
        by_cases e : j = k
        · rw [e]; exact h
        · exact hok.out j (by omega))
      clear hx hmem hok
      generalize fs.getD k (0, ⟨#[]⟩) = f at *
      obtain ⟨id, body⟩ := f
      dsimp only at *
      generalize joinU (fs.take k) = done at *
      by_cases hid : 1 ≤ id ∧ id ≤ 127
      · obtain ⟨n, rfl⟩ := Int.eq_ofNat_of_zero_le (show 0 ≤ id by omega)
        have HP := Lib.hid (fun W => fput_any (HC := HC) n body W (by omega) (by omega) (by omega))
        have hfs := frameS_size n body (by omega)
        have hsn2 : Hid (joinU (fs.take (k + 1)) = done ++ (frameS n body).data.toList) := Lib.hid (by rw [hsn.out]; rfl)
        have hbl : (frameS n body).data.toList.length = (frameS n body).size := Array.length_toList
        have hnx := Lib.hid (hnext.out hid)
        clear hsn hbad hnext
        generalize frameS n body = S at *
        go_wp2_with fail
        refine (HP.out _).mono ?_; rintro e' w1 ⟨rfl, k1⟩
        have HB1 : Hid (Bld w.heap.size w.heap.size done w1) := Lib.hid (hB.out.tr (by (repeat (first | with_reducible exact Below.refl _ _ | with_reducible refine kp_alloc ?_ _ | with_reducible refine kp_drew ?_ | with_reducible refine kp_set ?_ (by first | omega | (simp; done) | (simp; omega)) _ | with_reducible refine kp_tr ?_ (by with_reducible assumption)))))
        have hb1 : Hid (Below w.heap.size w w1) := Lib.hid (by have := hb.out; (repeat (first | with_reducible exact Below.refl _ _ | with_reducible refine kp_alloc ?_ _ | with_reducible refine kp_drew ?_ | with_reducible refine kp_set ?_ (by first | omega | (simp; done) | (simp; omega)) _ | with_reducible refine kp_tr ?_ (by with_reducible assumption))))
        have hlen2 := hlen.out
        have hL : Hid ((done ++ S.data.toList).length ≤ (k + 1) * 100015) := Lib.hid (by rw [List.length_append, hbl]; omega)
        have hdl : done.length + S.size < 100000000000000 := by omega
        have hws := hb1.out.size
        clear k1 hB hb hlen HP hlen2 hbl
        go_wp2_with fail
        refine (write_any w.heap.size w.heap.size done S _ HB1.out hdl hws).mono ?_; rintro e' w2 ⟨rfl, hB2, k2⟩
        have HB2 := Lib.hid hB2
        have hb2 : Hid (Below w.heap.size w w2) := Lib.hid (hb1.out.trans k2)
        have hwz2 := hb2.out.size
        clear hB2 k2 HB1 hb1 hws hwz
        go_wp2_with fail
        exact ⟨⟨k + 1, by omega, by go_num, hnx, Lib.hid (by rw [hsn2.out]; exact HB2.out), Lib.hid (by rw [hsn2.out]; exact hL.out), hb2, hwz2⟩, by simp [intOf]; omega⟩
      · have HB := Lib.hid (hbad.out hid)
        have HP := Lib.hid (fun W => fput_bad (HC := HC) id body W (by omega))
        clear hsn hbad hnext
        go_wp2_with fail
        refine (HP.out _).mono ?_; rintro e' w1 ⟨rfl, k1⟩
        have hb1 : Hid (Below w.heap.size w w1) := Lib.hid (by have := hb.out; (repeat (first | with_reducible exact Below.refl _ _ | with_reducible refine kp_alloc ?_ _ | with_reducible refine kp_drew ?_ | with_reducible refine kp_set ?_ (by first | omega | (simp; done) | (simp; omega)) _ | with_reducible refine kp_tr ?_ (by with_reducible assumption))))
        clear k1
        go_wp2_with fail
        go_ret2
        exact ⟨by rw [HB.out]; rfl, hb1.out⟩
    · obtain rfl : k = fs.length := by omega
      rw [List.take_length] at hB
      have HR : Hid (joinR fs = (⟨(joinU fs).toArray⟩, 0)) := Lib.hid (by
        rw [HJ.out, if_pos]
        intro f hf
        obtain ⟨i, hi, rfl⟩ := List.getElem_of_mem hf
        have := hok.out i hi
        simpa [List.getD, hi] using this)
      go_wp2_with fail
      refine (string_any w.heap.size w.heap.size (joinU fs) _ hB.out hwz).mono ?_; rintro e' w1 ⟨rfl, hB1, k1⟩
      have hb1 : Hid (Below w.heap.size w w1) := Lib.hid (hb.out.trans k1)
      clear hB1 k1 hB hb
      go_wp2_with fail
      go_ret2
      exact ⟨by rw [HR.out]; rfl, hb1.out⟩
end Go.Proofs.Ytgfgoflhmikalaa.fr

namespace Go.Proofs.Ytgfgoflhmikalaa.fr
open Go.RowKit Go.Proofs.Ytgfgoflhmikalaa.cm Go.Proofs.Ytgfgoflhmikalaa.cw Go.Proofs.Ytgfgoflhmikalaa.ga Go.Proofs.Ytgfgoflhmikalaa.gr Go.Proofs.Ytgfgoflhmikalaa.fl
set_option linter.unusedVariables false
set_option linter.unusedSimpArgs false
variable {HC : Code}
attribute [local irreducible] Go.Proofs.Ytgfgoflhmikalaa.par.loneP
theorem bytesN_inj {a b : ByteArray} (h : bytesN a = bytesN b) : a = b := by
  apply ByteArray.ext
  apply Array.toList_inj.1
  unfold bytesN at h
  exact (List.map_inj_right (fun x y e => UInt8.toNat_inj.1 e)).1 h
theorem bytesN_app (a b : ByteArray) : bytesN (a ++ b) = bytesN a ++ bytesN b := by simp [bytesN]
theorem bytesN_ext (s : ByteArray) (a b : Nat) : bytesN (s.extract a b) = ((bytesN s).drop a).take (b - a) := by
  simp [bytesN, List.drop_take, List.map_drop, List.map_take]
theorem bytesN_by (s : ByteArray) : By (bytesN s) := bytesN_lt s
theorem bytesN_strB {l : List Nat} (h : By l) : bytesN (strB l) = l := by
  unfold bytesN strB
  rw [strOfNums_data]
  simp only [List.map_map]
  conv => rhs; rw [← List.map_id l]
  apply List.map_congr_left
  intro b hb
  have := h b hb
  simp
  omega
theorem beqB (a b : ByteArray) : (a == b) = decide (a = b) := by
  rw [beq_toListBytes, ByteArray.toList_eq, ByteArray.toList_eq]
  by_cases h : a = b
  · subst h; simp
  · rw [decide_eq_false h]
    simp only [beq_eq_false_iff_ne, ne_eq]
    exact fun e => h (ByteArray.ext (Array.toList_inj.1 e))
theorem strB_bytesN (s : ByteArray) : strB (bytesN s) = s := bytesN_inj (bytesN_strB (bytesN_by s))
theorem headS_N {id : Nat} (body : ByteArray) (h : id ≤ 127) : bytesN (headS id body) = hdL id (bytesN body) := by
  unfold headS hdL
  rw [bytesN_app, bytesN_app, bytesN_strB (by intro b hb; simp at hb; omega), bytesN_strB (By.putN _), bytesN_len]
  simp
theorem frameS_N {id : Nat} (body : ByteArray) (h : id ≤ 127) : bytesN (frameS id body) = frL id (bytesN body) := by
  unfold frameS frL halfS
  rw [bytesN_app, bytesN_strB (By.le4 _), headS_N body h]
theorem nil_N : bytesN ⟨#[]⟩ = [] := rfl
theorem gbE_N (s : ByteArray) (a b n : Nat) : gbE s (cI3 (a, b, n)) = decide (((bytesN s).drop n).take 4 = le4 (sumN (((bytesN s).drop a).take (n - a)))) := by
  unfold gbE cI3
  dsimp only
  have e1 : (a : Int).toNat = a := by omega
  have e2 : (n : Int).toNat = n := by omega
  have e3 : ((n : Int) + 4).toNat = n + 4 := by omega
  rw [e1, e2, e3, bytesN_ext]
  have e4 : ((bytesN s).drop n).take 4 = bytesN (s.extract n (n + 4)) := by rw [bytesN_ext, Nat.add_sub_cancel_left]
  have e5 : ∀ X, le4 X = bytesN (halfS X) := fun X => by unfold halfS; rw [bytesN_strB (By.le4 _)]
  rw [e4, e5]
  rw [beqB]
  by_cases h : s.extract n (n + 4) = halfS (sumN (((bytesN s).drop a).take (n - a)))
  · rw [h]; simp
  · rw [decide_eq_false (fun e => h (bytesN_inj e)), decide_eq_false h]
/-- A cut and its sum, and the frame at the head of what is left. -/
theorem rd_pf (l : List Nat) (p : Nat) : match rd l p with
    | .bad e => pf (l.drop p) = .bad e
    | .ok a b n => pf (l.drop p) = if (l.drop n).take 4 = le4 (sumN ((l.drop a).take (n - a))) then .ok (l.getD a 0) ((l.drop b).take (n - b)) (l.drop (n + 4)) else .bad 4 := by
  unfold rd
  cases hd : l.drop p with
  | nil => rfl
  | cons x t =>
    have hlt : p < l.length := by
      rcases Nat.lt_or_ge p l.length with e | e
      · exact e
      · rw [List.drop_eq_nil_of_le e] at hd; cases hd
    have ht : t = l.drop (p + 1) := by rw [← List.tail_drop, hd]; rfl
    have hx : l.getD p 0 = x := by
      have : l[p]? = some x := by
        have := congrArg (fun l => l[0]?) hd
        simpa using this
      simp [List.getD, this]
    have htl : t.length = l.length - (p + 1) := by rw [ht]; simp
    dsimp only
    rw [pf_cons]
    by_cases hid : x < 1 ∨ 127 < x
    · rw [if_pos hid, if_pos hid]
    · rw [if_neg hid, if_neg hid]
      cases hv : vt 0 0 t with
      | short => rfl
      | form => rfl
      | ok v k =>
        dsimp only
        by_cases hk : k + v + 4 ≤ t.length
        · rw [if_pos hk, if_pos (show p + 1 + k + v + 4 ≤ l.length by omega)]
          dsimp only
          have d1 : t.drop (k + v) = l.drop (p + 1 + k + v) := by rw [ht, List.drop_drop]; congr 1; omega
          have d2 : t.drop k = l.drop (p + 1 + k) := by rw [ht, List.drop_drop]
          have d3 : t.drop (k + v + 4) = l.drop (p + 1 + k + v + 4) := by rw [ht, List.drop_drop]; congr 1; omega
          have d4 : x :: t.take (k + v) = (l.drop p).take (p + 1 + k + v - p) := by
            rw [hd, show p + 1 + k + v - p = (k + v) + 1 from by omega, List.take_succ_cons]
          rw [d1, d2, d3, d4, hx, show p + 1 + k + v - (p + 1 + k) = v from by omega]
        · rw [if_neg hk, if_neg (show ¬ p + 1 + k + v + 4 ≤ l.length by omega)]
theorem tk_N (s : ByteArray) (p : Nat) : tk s p = match pf ((bytesN s).drop p) with
    | .bad e => .bad e
    | .ok id body rest => .ok id (strB body) (s.size - rest.length) := by
  have h := rd_pf (bytesN s) p
  have hok := @rd_ok (bytesN s) p
  unfold tk
  cases hr : rd (bytesN s) p with
  | bad e =>
    rw [hr] at h
    dsimp only at h ⊢
    rw [h]
  | ok a b n =>
    rw [hr] at h
    obtain ⟨h1, h2, h3, h4, h5⟩ := hok hr
    rw [bytesN_len] at h5
    dsimp only at h ⊢
    rw [h, gbE_N]
    by_cases hs : ((bytesN s).drop n).take 4 = le4 (sumN (((bytesN s).drop a).take (n - a)))
    · rw [if_pos hs, if_pos (decide_eq_true hs)]
      dsimp only
      rw [← bytesN_ext, strB_bytesN]
      congr 1
      rw [List.length_drop, bytesN_len]
      omega
    · rw [if_neg hs, if_neg (by simpa using hs)]
theorem cuts_N (s : ByteArray) : ∀ (k p : Nat), s.size - p ≤ k →
    (if (cutsW (bytesN s) p).1.all (fun c => gbE s (cI3 c)) then (if (cutsW (bytesN s) p).2 = 0 then AL.ok ((cutsW (bytesN s) p).1.map fun c => ((bytesN s).getD c.1 0, ((bytesN s).drop c.2.1).take (c.2.2 - c.2.1))) else .bad (cutsW (bytesN s) p).2) else .bad 4) = allL ((bytesN s).drop p) := by
  intro k
  induction k with
  | zero =>
    intro p hk
    rw [cutsW_end (by rw [bytesN_len]; omega), List.drop_eq_nil_of_le (by rw [bytesN_len]; omega)]
    rfl
  | succ k ih =>
    intro p hk
    by_cases h : p < (bytesN s).length
    · have hp := rd_pf (bytesN s) p
      have hne : (bytesN s).drop p ≠ [] := by
        intro e
        have := List.drop_eq_nil_iff.1 e
        omega
      rw [allL_step hne]
      cases hr : rd (bytesN s) p with
      | bad e =>
        rw [hr] at hp
        dsimp only at hp
        rw [cutsW_bad h hr, hp]
        have he := rd_bad hr
        dsimp only
        rw [List.all_nil, if_pos rfl, if_neg (by omega)]
      | ok a b n =>
        obtain ⟨h1, h2, h3, h4, h5⟩ := rd_ok hr
        rw [hr] at hp
        dsimp only at hp
        rw [bytesN_len] at h5 h
        have hi := ih (n + 4) (by omega)
        rw [cutsW_ok (by rw [bytesN_len]; exact h) hr, hp]
        dsimp only
        rw [List.all_cons, gbE_N]
        by_cases hs : ((bytesN s).drop n).take 4 = le4 (sumN (((bytesN s).drop a).take (n - a)))
        · rw [if_pos hs, decide_eq_true hs, Bool.true_and]
          dsimp only
          rw [← hi]
          by_cases hall : (cutsW (bytesN s) (n + 4)).1.all (fun c => gbE s (cI3 c)) = true
          · rw [if_pos hall, if_pos hall]
            by_cases he : (cutsW (bytesN s) (n + 4)).2 = 0
            · rw [if_pos he, if_pos he]; rfl
            · rw [if_neg he, if_neg he]
          · rw [if_neg hall, if_neg hall]
        · rw [if_neg hs, decide_eq_false hs, Bool.false_and, if_neg (by simp)]
    · rw [cutsW_end h, List.drop_eq_nil_of_le (by omega)]
      rfl
/-- A frame as the program has it. -/
def toF (f : Fr) : GFr := ((f.1 : Int), strB f.2)
def ofF (f : GFr) : Fr := (f.1.toNat, bytesN f.2)
theorem allR_N (s : ByteArray) : allR s = match allL (bytesN s) with
    | .ok fs => (fs.map toF, 0)
    | .bad e => ([], e) := by
  have h := cuts_N s s.size 0 (by omega)
  rw [List.drop_zero] at h
  rw [← h]
  unfold allR
  by_cases hall : (cutsW (bytesN s) 0).1.all (fun c => gbE s (cI3 c)) = true
  · rw [if_pos hall, if_pos hall]
    by_cases he : (cutsW (bytesN s) 0).2 = 0
    · rw [if_pos he, if_pos he]
      dsimp only
      rw [List.map_map]
      congr 1
      refine List.map_congr_left fun c hc => ?_
      unfold frOf toF
      dsimp only [Function.comp]
      rw [← bytesN_ext, strB_bytesN]
    · rw [if_neg he, if_neg he]
  · rw [if_neg hall, if_neg hall]
theorem toF_ofF {f : GFr} (h : idOk f) : toF (ofF f) = f := by
  unfold toF ofF
  refine Prod.ext ?_ (strB_bytesN _)
  dsimp only
  have := h.1
  omega
theorem ofF_toF {f : Fr} (h : By f.2) : ofF (toF f) = f := by
  unfold toF ofF
  refine Prod.ext ?_ (bytesN_strB h)
  simp
theorem ofF_ok {f : GFr} (h : idOk f) (hs : f.2.size < 18446744073709551616) : (ofF f).Ok := by
  unfold ofF Fr.Ok
  dsimp only
  obtain ⟨h1, h2⟩ := h
  exact ⟨⟨by omega, by omega⟩, bytesN_by _, by rw [bytesN_len]; exact hs⟩
theorem toF_ok {f : Fr} (h : f.Ok) : idOk (toF f) := by
  unfold toF idOk
  dsimp only
  have := h.1
  omega
theorem joinU_N {fs : List GFr} (h : ∀ f ∈ fs, idOk f) : bytesN ⟨(joinU fs).toArray⟩ = joinL (fs.map ofF) := by
  induction fs with
  | nil => rfl
  | cons f fs ih =>
    have e : bytesN ⟨(joinU (f :: fs)).toArray⟩ = bytesN (frameS f.1.toNat f.2) ++ bytesN ⟨(joinU fs).toArray⟩ := by simp [joinU, bytesU, bytesN]
    have := h f (by simp)
    rw [e, ih (fun g hg => h g (List.mem_cons_of_mem _ hg)), frameS_N _ (by have := this.2; omega), List.map_cons, joinL_cons]
    rfl
theorem joinR_N {fs : List GFr} (h : ∀ f ∈ fs, idOk f) : joinR fs = (strB (joinL (fs.map ofF)), 0) := by
  unfold joinR
  rw [if_pos h, ← joinU_N h, strB_bytesN]
end Go.Proofs.Ytgfgoflhmikalaa.fr

namespace Go.Proofs.Ytgfgoflhmikalaa.lw
open Go.ChangeShapes Go.WideShapes Go.ChangeAt Go.RowKit Go.Joins Go.Proofs.Ytgfgoflhmikalaa.gr Go.Proofs.Ytgfgoflhmikalaa.par
set_option linter.unusedVariables false
set_option linter.unusedSimpArgs false
theorem spot_of {w : World} {a : Addr} {v : Value} (h : w.cell? a = some v) : a = ⟨a.block, a.off, none⟩ := by
  obtain ⟨b, o, s⟩ := a
  cases s with
  | none => rfl
  | some s => unfold World.cell? at h; dsimp only at h; split at h <;> simp at h
theorem choose_l {α : Type} {n : Nat} {p : Nat → α → Prop} (h : ∀ i, i < n → ∃ x, p i x) : ∃ l : List α, l.length = n ∧ ∀ i x, l[i]? = some x → p i x := by
  induction n with
  | zero => exact ⟨[], rfl, fun i x hx => by simp at hx⟩
  | succ n ih =>
    obtain ⟨l, hl, hp⟩ := ih (fun i hi => h i (by omega))
    obtain ⟨x, hx⟩ := h n (by omega)
    refine ⟨l ++ [x], by simp [hl], fun i y hy => ?_⟩
    by_cases e : i < n
    · rw [List.getElem?_append_left (by omega)] at hy
      exact hp i y hy
    · rw [List.getElem?_append_right (by omega)] at hy
      by_cases e2 : i = n
      · subst e2
        rw [hl, Nat.sub_self] at hy
        simp at hy
        rw [← hy]
        exact hx
      · rw [List.getElem?_eq_none (by simp; omega)] at hy
        cases hy
section
variable {H : Type} {enc : TypeId × Value → H} {w : World} {base : Nat} {spare : Nat → Bool} {held : Bool} {P : Program}
theorem rin_arg {α : Type} {k : Nat} {en : α → List Value} {ok : α → Prop} {T E : TypeId} {r : Reach} {b0 : Nat} {v : Value} {d : DataW H} {p : List MemPlace} (hT : P.underlying T = some (.slice E)) (hC : P.cellsOf E = k) (hk0 : 0 < k)
    (hrd : ∀ (n : Nat) (cs : List Value) (y : DataW H × List MemPlace), DataW.trod enc P w base spare held n E cs = some y → ∃ x : α, cs = en x ∧ (en x).length = k ∧ ok x)
    (hv : Value.okWide P w r b0 T v) (h : DataW.Trod enc P w base spare held T v d p) : ∃ l : List α, RIn k en w v l ∧ ∀ x ∈ l, ok x := by
  obtain ⟨ad, len, cap, rfl⟩ := okWide_slice hT hv
  obtain ⟨fuel, hf⟩ := h
  rcases Go.Deep.open_slice hT hf with ⟨hcs, _⟩ | ⟨a, len', cap', m, n, D, Pl, hcs, _, hl, hm, hmm, _, hx⟩
  · simp [Value.cells] at hcs
    obtain ⟨rfl, rfl, rfl⟩ := hcs
    exact ⟨[], RIn.nil, fun x hx => by simp at hx⟩
  · simp [Value.cells] at hcs
    obtain ⟨rfl, rfl, rfl⟩ := hcs
    have hml : len ≤ m := by rw [hmm]; split <;> omega
    have key : ∀ i, i < len → ∃ x : α, (∀ j y, (en x)[j]? = some y → w.cell? ((a.add (i * k)).add j) = some y) ∧ (en x).length = k ∧ ok x := by
      intro i hi
      obtain ⟨cs', h1, h2⟩ := hx i (by omega)
      rw [hC] at h1
      obtain ⟨_, hz, hcell⟩ := World.cells?_some h1
      obtain ⟨x, rfl, hlk, hok⟩ := hrd _ _ _ h2
      refine ⟨x, fun j y hy => ?_, hlk, hok⟩
      have hj : j < (en x).length := by
        rcases Nat.lt_or_ge j (en x).length with h | h
        · exact h
        · rw [List.getElem?_eq_none h] at hy; cases hy
      rw [hcell j (by omega), hy]
    obtain ⟨l, hll, hp⟩ := choose_l key
    refine ⟨l, ?_, fun x hx => ?_⟩
    · have hspot : 0 < len → a = ⟨a.block, a.off, none⟩ ∧ a.block < w.heap.size := fun h0 => by
        have hx0 : l[0]? = some l[0] := List.getElem?_eq_getElem (by omega)
        obtain ⟨h1, h2, _⟩ := hp 0 _ hx0
        have hlt : 0 < (en l[0]).length := by omega
        have h3 := h1 0 _ (List.getElem?_eq_getElem hlt)
        rw [Nat.zero_mul] at h3
        have e0 : (a.add 0).add 0 = a := by unfold Addr.add; simp
        rw [e0] at h3
        exact ⟨spot_of h3, World.block_lt_of_cell? _ _ h3⟩
      refine RIn.mk (ad := some a) (b := a.block) (off := a.off) (cap := cap) (by rw [hll]) (fun h0 => by rw [← (hspot (by omega)).1]) (fun e => by cases e) (by omega) (by unfold maxLen at hm; omega) (fun h0 => (hspot (by omega)).2) (fun i j x y hx hy => ?_)
      have hi : i < len := by
        rcases Nat.lt_or_ge i l.length with h | h
        · omega
        · rw [List.getElem?_eq_none h] at hx; cases hx
      have h1 := (hp i x hx).1 j y hy
      have hs := (hspot (by omega)).1
      have e : (a.add (i * k)).add j = ⟨a.block, a.off + i * k + j, none⟩ := by
        obtain ⟨b, o, s⟩ := a
        have hs2 : s = none := by simpa using hs
        subst hs2
        unfold Addr.add
        by_cases h1 : i * k = 0 <;> by_cases h2 : j = 0 <;> simp [h1, h2]
      rw [← e]
      exact h1
    · obtain ⟨i, hi, rfl⟩ := List.getElem_of_mem hx
      exact (hp i _ (List.getElem?_eq_getElem hi)).2.2
def enI (n : Int) : List Value := [.int .i64 n]
def enS (s : ByteArray) : List Value := [.string s]
theorem int_cells {k : IntKind} {E : TypeId} (hE : P.underlying E = some (.int k)) {n : Nat} {cs : List Value} {y : DataW H × List MemPlace} (h : DataW.trod enc P w base spare held n E cs = some y) : ∃ x : Int, cs = [.int k x] ∧ (Lit.int k x).wf = true := by
  obtain ⟨a0, e0, _, w0⟩ := DataW.trod_int hE h
  exact ⟨a0, e0, w0⟩
theorem str_cells {E : TypeId} (hE : P.underlying E = some .string) {n : Nat} {cs : List Value} {y : DataW H × List MemPlace} (h : DataW.trod enc P w base spare held n E cs = some y) : ∃ s : ByteArray, cs = [.string s] ∧ s.size ≤ maxLen := by
  obtain ⟨a0, e0, _, w0⟩ := DataW.trod_string hE h
  exact ⟨a0, e0, w0⟩
theorem ints_arg {r : Reach} {b0 : Nat} {v : Value} {d : DataW H} {p : List MemPlace} {T E : TypeId} (hT : P.underlying T = some (.slice E)) (hE : P.underlying E = some (.int .i64)) (hC : P.cellsOf E = 1) (hv : Value.okWide P w r b0 T v) (h : DataW.Trod enc P w base spare held T v d p) :
    ∃ l : List Int, RIn 1 enI w v l ∧ ∀ x ∈ l, -9223372036854775808 ≤ x ∧ x < 9223372036854775808 :=
  rin_arg hT hC (by omega) (fun n cs y h => by
    obtain ⟨x, rfl, hw⟩ := int_cells hE h
    exact ⟨x, rfl, rfl, wfb_i64 hw⟩) hv h
theorem strs_arg {r : Reach} {b0 : Nat} {v : Value} {d : DataW H} {p : List MemPlace} {T E : TypeId} (hT : P.underlying T = some (.slice E)) (hE : P.underlying E = some .string) (hC : P.cellsOf E = 1) (hv : Value.okWide P w r b0 T v) (h : DataW.Trod enc P w base spare held T v d p) :
    ∃ l : List ByteArray, RIn 1 enS w v l ∧ ∀ x ∈ l, x.size ≤ maxLen :=
  rin_arg hT hC (by omega) (fun n cs y h => by
    obtain ⟨x, rfl, hw⟩ := str_cells hE h
    exact ⟨x, rfl, rfl, hw⟩) hv h
end
/-! ### the world without what is odd -/
theorem tp_cell (w : World) (τ : Nat → Question → Nat) (a : Addr) : (tp w τ).cell? a = w.cell? a := rfl
theorem clean_rin {α : Type} {k : Nat} {en : α → List Value} {W : World} {v : Value} {zs : List α} (h : RIn k en W v zs) (hen : ∀ x, ∀ y ∈ en x, ∀ f, clv f y = y) (τ : Nat → Question → Nat) : RIn k en (tp (cleanW W) τ) v zs := by
  obtain ⟨ad, b, off, cap, rfl, h1, h2, h3, h4, h5, h6⟩ := h.form
  refine RIn.mk (ad := ad) (b := b) (off := off) (cap := cap) rfl h1 h2 h3 h4 (fun h0 => by show b < (cleanW W).heap.size; rw [clean_size]; exact h5 h0) fun i j x y hx hy => ?_
  have hlt : 0 < zs.length := by
    rcases Nat.lt_or_ge i zs.length with h | h
    · omega
    · rw [List.getElem?_eq_none h] at hx; cases hx
  have := h1 hlt
  subst this
  rw [tp_cell]
  exact clean_cell (h6.at hx j y hy) (hen x y (List.mem_of_getElem? hy) _)
theorem enI_clv : ∀ x, ∀ y ∈ enI x, ∀ f, clv f y = y := by
  intro x y hy f
  obtain rfl := List.mem_singleton.1 hy
  unfold clv
  rfl
theorem enS_clv : ∀ x, ∀ y ∈ enS x, ∀ f, clv f y = y := by
  intro x y hy f
  obtain rfl := List.mem_singleton.1 hy
  unfold clv
  rfl
theorem vr_int {P : Program} {W : World} {base : Nat} {t : TypeId} {v : Value} {k : IntKind} (hu : P.underlying t = some (.int k)) (h : Value.okWide P W .any base t v) : VR id (Dz W) v v := by
  unfold Value.okWide at h; simp only [hu] at h; unfold Cell.okWide at h; simp only [hu] at h; exact vr_ok h
theorem vr_bool {P : Program} {W : World} {base : Nat} {t : TypeId} {v : Value} (hu : P.underlying t = some .bool) (h : Value.okWide P W .any base t v) : VR id (Dz W) v v := by
  unfold Value.okWide at h; simp only [hu] at h; unfold Cell.okWide at h; simp only [hu] at h; exact vr_ok h
theorem vr_str {P : Program} {W : World} {base : Nat} {t : TypeId} {v : Value} (hu : P.underlying t = some .string) (h : Value.okWide P W .any base t v) : VR id (Dz W) v v := by
  unfold Value.okWide at h; simp only [hu] at h; unfold Cell.okWide at h; simp only [hu] at h; exact vr_ok h
theorem vr_slice {P : Program} {W : World} {base : Nat} {t e : TypeId} {v : Value} (hu : P.underlying t = some (.slice e)) (h : Value.okWide P W .any base t v) : VR id (Dz W) v v := by
  unfold Value.okWide at h; simp only [hu] at h; unfold Cell.okWide at h; simp only [hu] at h; exact vr_ok h
theorem vrs_of {W : World} {args : Array Value} (h : ∀ v ∈ args.toList, VR id (Dz W) v v) : VsR id (Dz W) args args := ⟨rfl, fun i x y hx hy => by
  rw [hx] at hy
  cases hy
  exact h x (by rw [← Array.getElem?_toList] at hx; exact List.mem_of_getElem? hx)⟩
end Go.Proofs.Ytgfgoflhmikalaa.lw

namespace Go.Proofs.Ytgfgoflhmikalaa.fr
open Go Go.RowKit Go.Proofs.Ytgfgoflhmikalaa.cm Go.Proofs.Ytgfgoflhmikalaa.cw Go.Proofs.Ytgfgoflhmikalaa.ga Go.Proofs.Ytgfgoflhmikalaa.gr Go.Proofs.Ytgfgoflhmikalaa.lw
set_option linter.unusedVariables false
set_option linter.unusedSimpArgs false
variable {HC : Code}
attribute [local irreducible] Go.Proofs.Ytgfgoflhmikalaa.par.loneP
theorem frame_und : (Go.Proofs.Ytgfgoflhmikalaa.par.loneP HC).underlying 27 = some (.struct ((Go.Proofs.Ytgfgoflhmikalaa.par.loneP HC).fieldsOf 27)) := by kernel_rfl
theorem frame_std : (Go.Proofs.Ytgfgoflhmikalaa.par.loneP HC).stoodInHeld 27 = false := by kernel_rfl
theorem frame_fl : ((Go.Proofs.Ytgfgoflhmikalaa.par.loneP HC).fieldsOf 27).toList.map (fun f => (f.name, f.type, f.offset)) = [("Id", 3, 0), ("Body", 9, 1)] := by kernel_rfl
theorem part_i (xs : Array Value) (o : Nat) (v : Value) (h : xs[o]? = some v) (w : World) : Sem.run (Go.Proofs.Ytgfgoflhmikalaa.par.loneP HC) (part 3 xs o) w = .ok v w := by simp [part, go_sem, h]
theorem part_s (xs : Array Value) (o : Nat) (v : Value) (h : xs[o]? = some v) (w : World) : Sem.run (Go.Proofs.Ytgfgoflhmikalaa.par.loneP HC) (part 9 xs o) w = .ok v w := by simp [part, go_sem, h]
theorem feq0 (a b : Int) (s t : ByteArray) (w : World) : Sem.run (Go.Proofs.Ytgfgoflhmikalaa.par.loneP HC) (Op.equalIn 10000 27 (.agg #[.int .i64 a, .string s]) (.agg #[.int .i64 b, .string t])) w = .ok (a == b && s == t) w := by
  rw [run_equalIn_agg w 9999 _ _ _ frame_und frame_std]
  have h := frame_fl (HC := HC)
  generalize ((Go.Proofs.Ytgfgoflhmikalaa.par.loneP HC).fieldsOf 27).toList = L at *
  rcases L with _ | ⟨f0, _ | ⟨f1, _ | ⟨f2, l⟩⟩⟩ <;> simp at h
  obtain ⟨⟨h1, h2, h3⟩, h4, h5, h6⟩ := h
  have e1 : Sem.run (Go.Proofs.Ytgfgoflhmikalaa.par.loneP HC) (Op.equalIn 9999 3 (.int .i64 a) (.int .i64 b)) w = .ok (a == b) w := run_equalIn_int w 9998 _ _ _ _ _ ((Go.Proofs.Ytgfgoflhmikalaa.par.lon_underlying HC 3).trans Try.underlying3)
  have e2 : Sem.run (Go.Proofs.Ytgfgoflhmikalaa.par.loneP HC) (Op.equalIn 9999 9 (.string s) (.string t)) w = .ok (s == t) w := by rw [beq_toListBytes]; exact run_equalIn_string w 9998 _ _ _ ((Go.Proofs.Ytgfgoflhmikalaa.par.lon_underlying HC 9).trans Try.underlying9)
  simp only [Op.eqFields, h1, h2, h3, h4, h5, h6, Sem.run_bind, part_i #[.int .i64 a, .string s] 0 (.int .i64 a) rfl, part_s #[.int .i64 a, .string s] 1 (.string s) rfl, part_i #[.int .i64 b, .string t] 0 (.int .i64 b) rfl, part_s #[.int .i64 b, .string t] 1 (.string t) rfl, Result.andThen_ok, e1, e2, Sem.run_ite, Sem.run_pure]
  rcases a == b with _ | _ <;> rcases s == t with _ | _ <;> simp
theorem frame_gd : (Go.Proofs.Ytgfgoflhmikalaa.par.loneP HC).eqGuardType (Go.Proofs.Ytgfgoflhmikalaa.par.loneP HC).depth 27 = false := by kernel_rfl
@[go_sem] theorem fguard (op : BinOp) (x y : Operand) (xs ys : Array Value) (w : World) : Sem.run (Go.Proofs.Ytgfgoflhmikalaa.par.loneP HC) (eqGuard op 27 x y (.agg xs) (.agg ys)) w = .ok () w := run_eqGuard_agg w op _ x y xs ys frame_gd
theorem fbeq (a b : Int) (s t : ByteArray) : (a == b && s == t) = decide (((a, s) : GFr) = (b, t)) := by
  rw [beqB]
  by_cases h1 : a = b <;> by_cases h2 : s = t <;> simp [h1, h2]
def pickI (c n : Int) : Int := (if c < 0 then -(c+1) else c) % n
theorem pickI_in (c : Int) {n : Int} (h : 0 < n) : 0 ≤ pickI c n ∧ pickI c n < n := ⟨Int.emod_nonneg _ (by omega), Int.emod_lt_of_pos _ h⟩
theorem pick_any (c n : Int) (w : World) (hn : 1 ≤ n) (hn2 : n < 1000000000000) (h1 : -9223372036854775808 ≤ c) (h2 : c < 9223372036854775808) :
    Calls (Go.Proofs.Ytgfgoflhmikalaa.par.loneP HC) 19 #[.int .i64 c, .int .i64 n] w fun e w' => e = .returned (.int .i64 (pickI c n)) ∧ w = w' := by
  by_cases h : c < 0
  · have HP : Hid (pickI c n = -(c+1) % n) := by unfold pickI; rw [if_pos h]; rfl
    go_enter (Go.Proofs.Ytgfgoflhmikalaa.par.lfun19 (H := HC)), Try.ntmps19
    go_wp2
    go_ret
    exact retI (by rw [HP.out, ← Int.neg_tmod, Int.tmod_eq_emod_of_nonneg (by omega)]) rfl
  · have HP : Hid (pickI c n = c % n) := by unfold pickI; rw [if_neg h]; rfl
    go_enter (Go.Proofs.Ytgfgoflhmikalaa.par.lfun19 (H := HC)), Try.ntmps19
    go_wp2
    go_ret
    exact retI (by rw [HP.out]; try rw [Int.tmod_eq_emod_of_nonneg (by omega)]) rfl
theorem take_eq {α : Type} {xs ys : List α} (hl : xs.length = ys.length) {k : Nat} (d : α) (h : xs.take k = ys.take k) (e : xs.getD k d = ys.getD k d) : xs.take (k + 1) = ys.take (k + 1) := by
  by_cases hk : k < xs.length
  · rw [List.take_add_one, List.take_add_one, h]
    congr 1
    simp only [List.getD, List.getElem?_eq_getElem hk, List.getElem?_eq_getElem (hl ▸ hk)] at e ⊢
    simpa using e
  · rw [List.take_of_length_le (by omega), List.take_of_length_le (by omega)]
    rw [List.take_of_length_le (by omega), List.take_of_length_le (by omega)] at h
    exact h
theorem take_all {α : Type} {xs ys : List α} (hl : xs.length = ys.length) {k : Nat} (hk : xs.length ≤ k) (h : xs.take k = ys.take k) : xs = ys := by
  rw [List.take_of_length_le hk, List.take_of_length_le (by omega)] at h
  exact h
set_option maxHeartbeats 1000000 in
theorem same_any (v u : Value) (xs ys : List GFr) (w : World) (hx : RIn 2 encF w v xs) (hy : RIn 2 encF w u ys) :
    Calls (Go.Proofs.Ytgfgoflhmikalaa.par.loneP HC) 18 #[v, u] w fun e w' => e = .returned (.bool (decide (xs = ys))) ∧ Below w.heap.size w w' := by
  obtain ⟨ad, b, off, cap, rfl, h1, h2, h3, h4, h5, hX⟩ := hx.form
  obtain ⟨ad', b', off', cap', rfl, h1', h2', h3', h4', h5', hY⟩ := hy.form
  clear hx hy
  by_cases hl : xs.length = ys.length
  · have HX := Lib.hid hX
    have HY := Lib.hid hY
    clear hX hY h2 h2'
    generalize hm : ys.length = m at *
    generalize hn : xs.length = n at *
    subst hl
    have HL : Hid (xs.length = n ∧ ys.length = n) := ⟨hn, hm⟩
    clear hn hm
    go_enter (Go.Proofs.Ytgfgoflhmikalaa.par.lfun18 (H := HC)), Try.ntmps18
    go_wp2_with fail
    go_loopw [5] (fun i wr => ∃ k : Nat, k ≤ n ∧ i = .int .i64 k ∧ Hid (xs.take k = ys.take k) ∧ Hid (Below w.heap.size w wr)) (fun i _ => n - (intOf i).toNat)
    case atStart => exact ⟨0, Nat.zero_le _, rfl, by simp [Hid], Lib.hid (Below.refl _ _)⟩
    case round =>
      obtain ⟨k, hk, rfl, ht, hb⟩ := hrel
      by_cases hlk : k < n
      · obtain rfl := h1 (by omega)
        obtain rfl := h1' (by omega)
        have hkx : xs[k]? = some (xs.getD k (0, ⟨#[]⟩)) := by simp [List.getD, show k < xs.length by have := HL.out; omega]
        have hky : ys[k]? = some (ys.getD k (0, ⟨#[]⟩)) := by simp [List.getD, show k < ys.length by have := HL.out; omega]
        have x0 := cell_tr hb.out (HX.out.at hkx 0 _ rfl)
        have x1 := cell_tr hb.out (HX.out.at hkx 1 _ rfl)
        have y0 := cell_tr hb.out (HY.out.at hky 0 _ rfl)
        have y1 := cell_tr hb.out (HY.out.at hky 1 _ rfl)
        rw [Nat.add_zero] at x0 y0
        have HT := Lib.hid (take_eq (xs := xs) (ys := ys) (k := k) (by have := HL.out; omega) (0, ⟨#[]⟩) ht.out)
        have HE : Hid (xs = ys → xs.getD k (0, ⟨#[]⟩) = ys.getD k (0, ⟨#[]⟩)) := fun e => by rw [e]
        clear hkx hky
        generalize xs.getD k (0, ⟨#[]⟩) = x at *
        generalize ys.getD k (0, ⟨#[]⟩) = y at *
        obtain ⟨xi, xb⟩ := x
        obtain ⟨yi, yb⟩ := y
        dsimp only at *
        have hfe := feq0 (HC := HC) xi yi xb yb
        rw [fbeq] at hfe
        by_cases hxy : ((xi, xb) : GFr) = (yi, yb)
        · rw [decide_eq_true hxy] at hfe
          go_wp2_with fail
          go_region
          go_wp2_with fail
          exact ⟨⟨k + 1, by omega, by go_num, HT.out hxy, Lib.hid (kp_drew hb.out)⟩, by simp [intOf]; omega⟩
        · rw [decide_eq_false hxy] at hfe
          go_wp2_with fail
          go_region
          go_wp2_with fail
          go_ret
          exact retB (by symm; exact decide_eq_false fun e => hxy (HE.out e)) (kp_drew hb.out)
      · have HE : Hid (xs = ys) := take_all (by have := HL.out; omega) (by have := HL.out; omega) ht.out
        go_wp2_with fail
        go_ret
        exact retB (by symm; exact decide_eq_true HE.out) hb.out
  · have HE : Hid (xs ≠ ys) := fun e => hl (by rw [e])
    have hne : ¬ (xs.length : Int) = (ys.length : Int) := by omega
    go_enter (Go.Proofs.Ytgfgoflhmikalaa.par.lfun18 (H := HC)), Try.ntmps18
    go_wp2_with fail
    go_ret
    exact retB (by symm; exact decide_eq_false HE.out) (Below.refl _ _)
/-- The frames of raw numbers and texts. -/
theorem step_frame {ops : Array Oper} {o : Oper} {a : Act} {Q : Exit → Act → World → Prop} {w : World} {K : Act → World → Prop} {E : Prop} (hg : o.guard = none) (s x : Operand)
    (ho : o.op = .call { callee := .builtin .append, args := #[s, x], argTypes := #[22, 22] })
    (B : Nat) (v u : Value) (xs : List GFr) (y : GFr) (hs : a.eval s = v) (hx : a.eval x = u) (hown : OwnR 27 2 encF w B v xs) (hys : RIn 2 encF w u [y]) (hbig : xs.length + 1 < 100000000000) (hB : B ≤ w.heap.size)
    (h : ∀ v' w', OwnR 27 2 encF w' B v' (xs ++ [y]) → w.grownBy w' v.ownBlock → (v'.ownBlock = v.ownBlock ∨ v'.ownBlock = some w.heap.size) → K (a.put o.dst v') w') :
    if Region.wanted o (yielded ops a.tmps) = true then Oper.wp (Go.Proofs.Ytgfgoflhmikalaa.par.loneP HC) o a w K Q else E :=
  step_g (α := GFr) (k := 2) (en := encF) hg s x _ ho (fun _ => rfl) (fun _ => encF_one) _ 24 ((Go.Proofs.Ytgfgoflhmikalaa.par.lon_underlying HC 22).trans Try.underlying22) info_frame rfl (by decide) (by decide) B v u xs [y] hs hx hown hys hbig hB h
def cutB (s : ByteArray) (n : Nat) : ByteArray := s.extract 0 (min s.size n)
theorem cutB_le (s : ByteArray) (n : Nat) : (cutB s n).size ≤ n := by unfold cutB; simp; omega
def frRaw (p : Int × ByteArray) : GFr := (1 + pickI p.1 127, cutB p.2 40)
def listR (is : List Int) (bs : List ByteArray) : List GFr := ((is.zip bs).take 8).map frRaw
theorem listR_len (is : List Int) (bs : List ByteArray) : (listR is bs).length = min 8 (min is.length bs.length) := by simp [listR]
theorem listR_snoc (is : List Int) (bs : List ByteArray) {k : Nat} (h1 : k < is.length) (h2 : k < bs.length) (h3 : k < 8) : (listR is bs).take (k + 1) = (listR is bs).take k ++ [frRaw (is.getD k 0, bs.getD k ⟨#[]⟩)] := by
  rw [List.take_add_one]
  congr 1
  simp [listR, List.getElem?_take, h3, h1, h2, List.getD, List.getElem?_zip_eq_some]
  exact ⟨_, _, ⟨rfl, rfl⟩, rfl⟩
theorem listR_ok {is : List Int} {bs : List ByteArray} : ∀ f ∈ listR is bs, idOk f ∧ f.2.size ≤ 40 := by
  intro f hf
  obtain ⟨p, _, rfl⟩ := List.mem_map.1 hf
  have := pickI_in p.1 (n := 127) (by omega)
  unfold frRaw idOk
  exact ⟨⟨by dsimp only; omega, by dsimp only; omega⟩, cutB_le _ _⟩
set_option maxRecDepth 100000 in
set_option maxHeartbeats 4000000 in
theorem list_any (v u : Value) (is : List Int) (bs : List ByteArray) (w : World) (hx : RIn 1 enI w v is) (hy : RIn 1 enS w u bs) (hi : ∀ x ∈ is, -9223372036854775808 ≤ x ∧ x < 9223372036854775808) (hb : ∀ s ∈ bs, s.size ≤ maxLen) :
    Calls (Go.Proofs.Ytgfgoflhmikalaa.par.loneP HC) 10 #[v, u] w fun e w' => ∃ v', e = .returned v' ∧ OwnR 27 2 encF w' w.heap.size v' (listR is bs) ∧ Below w.heap.size w w' := by
  obtain ⟨ad, b, off, cap, rfl, h1, h2, h3, h4, h5, hX⟩ := hx.form
  obtain ⟨ad', b', off', cap', rfl, h1', h2', h3', h4', h5', hY⟩ := hy.form
  clear hx hy h2 h2'
  have HX := Lib.hid hX
  have HY := Lib.hid hY
  have HI := Lib.hid hi
  have HB := Lib.hid hb
  clear hX hY hi hb
  go_enter (Go.Proofs.Ytgfgoflhmikalaa.par.lfun10 (H := HC)), Try.ntmps10
  go_wp2_with fail
  go_loopw [5, 6] (fun l i wr => ∃ k : Nat, (k ≤ is.length ∧ k ≤ bs.length ∧ k ≤ 8) ∧ i = .int .i64 k ∧ Hid (OwnR 27 2 encF wr w.heap.size l ((listR is bs).take k)) ∧ Hid (Below w.heap.size w wr)) (fun _ i _ => 8 - (intOf i).toNat)
  case atStart => exact ⟨0, by omega, rfl, Lib.hid (OwnR.nil _ _), Lib.hid (Below.refl _ _)⟩
  case round =>
    obtain ⟨k, ⟨hk1, hk2, hk3⟩, rfl, ho, hb⟩ := hrel
    by_cases hlk : k < is.length ∧ k < bs.length ∧ k < 8
    · obtain ⟨l1, l2, l3⟩ := hlk
      obtain rfl := h1 (by omega)
      obtain rfl := h1' (by omega)
      have hkx : is[k]? = some (is.getD k 0) := by simp [List.getD, l1]
      have hky : bs[k]? = some (bs.getD k ⟨#[]⟩) := by simp [List.getD, l2]
      have x0 := HX.out.at hkx 0 _ rfl
      have y0 := HY.out.at hky 0 _ rfl
      obtain ⟨i1, i2⟩ := HI.out _ (List.mem_of_getElem? hkx)
      have hsz := HB.out _ (List.mem_of_getElem? hky)
      unfold maxLen at hsz
      rw [Nat.add_zero, Nat.mul_one] at x0 y0
      have hsn := Lib.hid (listR_snoc is bs l1 l2 l3)
      have hll : ((listR is bs).take k).length + 1 < 100000000000 := by simp [listR_len]; omega
      clear hkx hky
      generalize is.getD k 0 = x at *
      generalize bs.getD k ⟨#[]⟩ = y at *
      generalize (listR is bs).take k = done at *
      obtain ⟨p1, p2⟩ := pickI_in x (n := 127) (by omega)
      have HP := Lib.hid (fun W => pick_any (HC := HC) x 127 W (by omega) (by omega) i1 i2)
      have hfr : Hid (frRaw (x, y) = (1 + pickI x 127, cutB y 40)) := Lib.hid rfl
      have hcb : Hid (cutB y 40 = y.extract 0 (min y.size 40)) := Lib.hid rfl
      generalize hm : min y.size 40 = m at *
      have hmm : min (y.size : Int) 40 = (m : Int) := by omega
      have hmi : (if (40 : Int) < (y.size : Int) then 40 else (y.size : Int)) = (m : Int) := by split <;> omega
      have hmle : (m : Int) ≤ (y.size : Int) := by omega
      clear hm
      generalize pickI x 127 = q at *
      have hq : IntKind.i64.wrap (1 + q) = 1 + q := wr_i64 _ (by omega)
      have HO0 : Hid (OwnR 27 2 encF wr w.heap.size u5 done) := ho
      have HB0 : Hid (Below w.heap.size w wr) := hb
      have hwz := hb.out.size
      have hB1 := hb.out
      clear ho hb
      go_wp2_with fail
      go_region_held3 (fun w' => w'.cell? ⟨b, off + k, none⟩ = some (.int .i64 x) ∧ w'.cell? ⟨b', off' + k, none⟩ = some (.string y))
        ((refine s2_tr (W := w) ?_ ⟨x0, y0⟩; (repeat (first | with_reducible exact Below.refl _ _ | with_reducible refine kp_alloc ?_ _ | with_reducible refine kp_drew ?_ | with_reducible refine kp_set ?_ (by first | omega | (simp; done) | (simp; omega)) _ | with_reducible refine kp_tr ?_ (by with_reducible assumption)))))
        (first
          | (go_at_call 19; refine (HP.out _).mono ?_; rintro e w1 ⟨rfl, rfl⟩)
          | (refine step_frame ?_ (.tmp 23) (.tmp 42) ?_ w.heap.size u5 (.slice (some ⟨wr.heap.size, 0, none⟩) 1 1) done (1 + q, y.extract 0 m) ?_ ?_ ?_ ?_ hll ?_ ?_; rfl; rfl; rfl; rfl; (refine HO0.out.tr ?_; (repeat (first | with_reducible exact Below.refl _ _ | with_reducible refine kp_alloc ?_ _ | with_reducible refine kp_drew ?_ | with_reducible refine kp_set ?_ (by first | omega | (simp; done) | (simp; omega)) _ | with_reducible refine kp_tr ?_ (by with_reducible assumption)))); (refine one_g wr.drew (1 + q, y.extract 0 m) _ rfl _ ?_; rfl); (refine Nat.le_trans hwz ?_; simp); intro v2 w2 ho2 hg2 hat2; have hb2 : Below w.heap.size w w2 := gr_below hg2 (b_alloc (kp_drew hB1) (Nat.le_refl _) _) (Nat.le_refl _) HO0.out.block))
      all_goals
        have H2 : Hid (OwnR 27 2 encF w2 w.heap.size v2 ((listR is bs).take (k + 1))) := Lib.hid (by rw [hsn.out, hfr.out, hcb.out]; exact ho2)
        have H3 := Lib.hid hb2
        clear ho2 hg2 hat2 hb2 HO0 HB0 hB1 hwz HP
        go_wp2_with fail
        exact ⟨⟨k + 1, ⟨by omega, by omega, by omega⟩, by go_num, H2, H3⟩, by simp [intOf]; omega⟩
    · have hkL : k = (listR is bs).length := by rw [listR_len]; omega
      have ho2 := ho.out
      rw [hkL, List.take_length] at ho2
      have HO2 := Lib.hid ho2
      have HB2 := hb
      clear ho ho2 hb hkL
      go_wp2_with fail
      all_goals (try simp only [decide_eq_true_eq, decide_eq_false_iff_not] at *)
      all_goals first | (exfalso; omega) | (go_ret; exact ⟨_, rfl, HO2.out, HB2.out⟩)
end Go.Proofs.Ytgfgoflhmikalaa.fr
