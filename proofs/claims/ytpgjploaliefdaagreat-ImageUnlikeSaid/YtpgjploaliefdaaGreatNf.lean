/- Bytes as numbers, frames as lists (out of Fo). No conditions. -/
import Derived.Test.YtpgjploaliefdaaGreatFl
import Derived.Test.YtpgjploaliefdaaGreatG17
namespace Go.Proofs.YtpgjploaliefdaaGreat.fr
open Go.RowKit cm cw ga gr fl
set_option linter.unusedVariables false
set_option linter.unusedSimpArgs false
theorem bytesN_inj {a b : ByteArray} (h : bytesN a = bytesN b) : a = b := by
 apply ByteArray.ext
 apply Array.toList_inj.1
 unfold bytesN at h
 exact (List.map_inj_right (fun x y e => UInt8.toNat_inj.1 e)).1 h
theorem bytesN_app (a b : ByteArray) : bytesN (a ++ b) = bytesN a ++ bytesN b := by simp [bytesN]
theorem bytesN_by (s : ByteArray) : By (bytesN s) := bytesN_lt s
theorem bytesN_strB {l : List Nat} (h : By l) : bytesN (strB l) = l := by
 unfold bytesN strB
 rw [strOfNums_data]
 simp only [List.map_map]
 conv => rhs; rw [← List.map_id l]
 apply List.map_congr_left
 intro b hb
 have := h b hb
 simp
 omega
theorem strB_bytesN (s : ByteArray) : strB (bytesN s) = s := bytesN_inj (bytesN_strB (bytesN_by s))
theorem headS_N {id : Nat} (body : ByteArray) (h : id ≤ 127) : bytesN (headS id body) = hdL id (bytesN body) := by
 unfold headS hdL
 rw [bytesN_app, bytesN_app, bytesN_strB (by intro b hb; simp at hb; omega), bytesN_strB (By.putN _), bytesN_len]
 simp
theorem frameS_N {id : Nat} (body : ByteArray) (h : id ≤ 127) : bytesN (frameS id body) = frL id (bytesN body) := by
 unfold frameS frL halfS
 rw [bytesN_app, bytesN_strB (By.le4 _), headS_N body h]
def toF (f : Fr) : GFr := ((f.1 : Int), strB f.2)
def ofF (f : GFr) : Fr := (f.1.toNat, bytesN f.2)
theorem toF_ofF {f : GFr} (h : idOk f) : toF (ofF f) = f := by
 unfold toF ofF
 refine Prod.ext ?_ (strB_bytesN _)
 dsimp only
 have := h.1
 omega
theorem ofF_toF {f : Fr} (h : By f.2) : ofF (toF f) = f := by
 unfold toF ofF
 refine Prod.ext ?_ (bytesN_strB h)
 simp
theorem ofF_ok {f : GFr} (h : idOk f) (hs : f.2.size < 18446744073709551616) : (ofF f).Ok := by
 unfold ofF Fr.Ok
 dsimp only
 obtain ⟨h1, h2⟩ := h
 exact ⟨⟨by omega, by omega⟩, bytesN_by _, by rw [bytesN_len]; exact hs⟩
theorem toF_ok {f : Fr} (h : f.Ok) : idOk (toF f) := by
 unfold toF idOk
 dsimp only
 have := h.1
 omega
theorem joinU_N {fs : List GFr} (h : ∀ f ∈ fs, idOk f) : bytesN ⟨(joinU fs).toArray⟩ = joinL (fs.map ofF) := by
 induction fs with
 | nil => rfl
 | cons f fs ih =>
  have e : bytesN ⟨(joinU (f :: fs)).toArray⟩ = bytesN (frameS f.1.toNat f.2) ++ bytesN ⟨(joinU fs).toArray⟩ := by simp [joinU, bytesU, bytesN]
  have := h f (by simp)
  rw [e, ih (fun g hg => h g (List.mem_cons_of_mem _ hg)), frameS_N _ (by have := this.2; omega), List.map_cons, joinL_cons]
  rfl
theorem joinR_N {fs : List GFr} (h : ∀ f ∈ fs, idOk f) : joinR fs = (strB (joinL (fs.map ofF)), 0) := by
 unfold joinR
 rw [if_pos h, ← joinU_N h, strB_bytesN]
end Go.Proofs.YtpgjploaliefdaaGreat.fr
