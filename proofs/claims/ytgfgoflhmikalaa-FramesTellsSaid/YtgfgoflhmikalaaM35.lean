/- Part 35 of what the proofs stand on: lemmas on worlds, on goroutines, contracts of functions. No conditions. -/
import Derived.Test.YtgfgoflhmikalaaM34
import Derived.ChangeSame
namespace Go.Proofs.Ytgfgoflhmikalaa.fr
open Go Go.RowKit Go.Proofs.Ytgfgoflhmikalaa.cm Go.Proofs.Ytgfgoflhmikalaa.cw Go.Proofs.Ytgfgoflhmikalaa.ga Go.Proofs.Ytgfgoflhmikalaa.gr Go.Proofs.Ytgfgoflhmikalaa.lw Go.Proofs.Ytgfgoflhmikalaa.fl
set_option linter.unusedVariables false
set_option linter.unusedSimpArgs false
variable {HC : Code}
attribute [local irreducible] Go.Proofs.Ytgfgoflhmikalaa.par.loneP
theorem nil_B : (⟨#[]⟩ : ByteArray) = strB [] := rfl
theorem aw_sum : le4 (sumN [1, 0]) = [190, 35, 194, 88] := by kernel_rfl
theorem aw_L : frL 1 [] = [1, 0, 190, 35, 194, 88] := by
  unfold frL hdL
  rw [List.length_nil, putN_lo (by omega)]
  show [1, 0] ++ le4 (sumN [1, 0]) = _
  rw [aw_sum]
  rfl
theorem aw_S : frameS 1 ⟨#[]⟩ = ⟨#[1, 0, 190, 35, 194, 88]⟩ := bytesN_inj (by rw [frameS_N _ (by omega), nil_N, aw_L]; rfl)
theorem aw_ok : Fr.Ok (1, []) := ⟨⟨by decide, by decide⟩, (fun b hb => by cases hb), by decide⟩
theorem aw_t1 : tk (frameS 1 ⟨#[]⟩) 0 = .ok 1 ⟨#[]⟩ 6 := by
  rw [tk_N, frameS_N _ (by omega), List.drop_zero, nil_N]
  have := pf_put aw_ok []
  rw [List.append_nil] at this
  rw [this]
  dsimp only
  rw [aw_S]
  rfl
theorem aw_a1 : allR (frameS 1 ⟨#[]⟩ ++ frameS 1 ⟨#[]⟩) = ([(1, ⟨#[]⟩), (1, ⟨#[]⟩)], 0) := by
  rw [allR_N, bytesN_app, frameS_N _ (by omega), nil_N]
  have h := allL_back (fs := [(1, []), (1, [])]) (fun f hf => by simp at hf; subst hf; exact aw_ok)
  have e : joinL [(1, []), (1, [])] = frL 1 [] ++ frL 1 [] := by simp [joinL]
  rw [e] at h
  rw [h]
  rfl
theorem aw_t2 : tk (frameS 1 ⟨#[]⟩) 6 = .bad 2 := by
  rw [tk_N, aw_S]
  rfl
theorem aw_t3 : tk ⟨#[128, 0]⟩ 0 = .bad 3 := by
  rw [tk_N]
  rfl
theorem aw_a2 : allR ((frameS 1 ⟨#[]⟩).extract 0 5 ++ ⟨#[122]⟩) = ([], 4) := by
  have e : bytesN ((frameS 1 ⟨#[]⟩).extract 0 5 ++ ⟨#[122]⟩) = 1 :: (putN ([] : List Nat).length ++ [] ++ [190, 35, 194, 122]) ++ [] := by
    rw [aw_S, List.length_nil, putN_lo (by omega)]
    rfl
  rw [allR_N, allL_step (by rw [e]; simp), e, pf_any ⟨by omega, by omega⟩ (by decide) rfl, if_neg]
  unfold hdL
  rw [List.length_nil, putN_lo (by omega)]
  show ¬ [190, 35, 194, 122] = le4 (sumN [1, 0])
  rw [aw_sum]
  decide
theorem aw_j : joinR [(1, ⟨#[]⟩), (1, ⟨#[]⟩)] = (frameS 1 ⟨#[]⟩ ++ frameS 1 ⟨#[]⟩, 0) := by
  unfold joinR
  rw [if_pos (fun f hf => by simp at hf; subst hf; exact ⟨by decide, by decide⟩)]
  congr 1
  apply ByteArray.ext
  apply Array.toList_inj.1
  simp [joinU, bytesU]
theorem two_g {α : Type} {k : Nat} {en : α → List Value} (hk : ∀ x : α, (en x).length = k) (w : World) (x y : α) (cs : Array Value) (hc : cs.toList = en x ++ en y) (T' : TypeId) {m : Nat} (hm : m = w.heap.size) : RIn k en (w.alloc (.cells cs T')) (.slice (some ⟨m, 0, none⟩) 2 2) [x, y] := by
  subst hm
  refine RIn.mk (ad := some ⟨w.heap.size, 0, none⟩) (b := w.heap.size) (off := 0) (cap := 2) rfl (fun _ => rfl) (fun e => by cases e) (Nat.le_refl _) (by decide) (fun _ => by simp) (fun i j x' y' hx hy => ?_)
  have h := flat_get (hk := hk) [x, y] i j x' y' hx hy
  have e : [x, y].flatMap en = cs.toList := by rw [hc]; simp
  rw [e] at h
  have : cs[i * k + j]? = some y' := by rw [← h]; simp
  simp [this]
set_option maxRecDepth 100000 in
set_option maxHeartbeats 8000000 in
theorem awake_any (hEq : HC = par.Hm) (w : World) :
    Calls (Go.Proofs.Ytgfgoflhmikalaa.par.loneP HC) 9 #[] w fun e w' => e = .returned (.bool true) ∧ Below w.heap.size w w' := by
  have hSs : (frameS 1 ⟨#[]⟩).size = 6 := by rw [aw_S]; rfl
  have hSx : (frameS 1 ⟨#[]⟩).extract 0 2 = ⟨#[1, 0]⟩ := by rw [aw_S]; rfl
  have HP1 := Lib.hid (fun W => fput_any (HC := HC) 1 ⟨#[]⟩ W (by omega) (by omega) (by decide))
  have HP0 := Lib.hid (fun W => fput_bad (HC := HC) 0 ⟨#[]⟩ W (by omega))
  have HT1 := Lib.hid (fun W => ftake_any hEq (frameS 1 ⟨#[]⟩) 0 W (by omega) (by omega))
  have HA1 := Lib.hid (fun W => all_any hEq (frameS 1 ⟨#[]⟩ ++ frameS 1 ⟨#[]⟩) W (by simp; omega))
  have HT2 := Lib.hid (fun W => ftake_any hEq (frameS 1 ⟨#[]⟩) 6 W (by omega) (by omega))
  have HT3 := Lib.hid (fun W => ftake_any hEq ⟨#[128, 0]⟩ 0 W (by decide) (by omega))
  have HA2 := Lib.hid (fun W => all_any hEq ((frameS 1 ⟨#[]⟩).extract 0 5 ++ ⟨#[122]⟩) W (by rw [aw_S]; decide))
  have HJ := Lib.hid (fun v W h => join_any (HC := HC) v [(1, ⟨#[]⟩), (1, ⟨#[]⟩)] W h (by decide) (fun f hf => by simp at hf; subst hf; decide) (fun f hf => by simp at hf; subst hf; decide))
  rw [aw_t1] at HT1
  rw [aw_a1] at HA1
  rw [aw_t2] at HT2
  rw [aw_t3] at HT3
  rw [aw_a2] at HA2
  rw [aw_j] at HJ
  clear hEq
  generalize frameS 1 ⟨#[]⟩ = S at *
  have ad1 := add_run (HC := HC) S S (by omega)
  have hz1 : (⟨#[122]⟩ : ByteArray).size = 1 := rfl
  have ad2 := add_run (HC := HC) (S.extract 0 5) ⟨#[122]⟩ (by rw [hz1]; simp; omega)
  clear hz1
  go_enter (Go.Proofs.Ytgfgoflhmikalaa.par.lfun9 (H := HC)), Try.ntmps9
  go_wp2_with fail
  refine (HP1.out _).mono ?_; rintro e w1 ⟨rfl, k1⟩
  go_wp2_with fail
  refine (HT1.out _).mono ?_; rintro e w2 ⟨rfl, k2⟩
  simp only [tkV, frV]
  have hb2 : Below w.heap.size w w2 := by (repeat (first | with_reducible exact Below.refl _ _ | with_reducible refine kp_alloc ?_ _ | with_reducible refine kp_drew ?_ | with_reducible refine kp_set ?_ (by first | omega | (simp; done) | (simp; omega)) _ | with_reducible refine kp_tr ?_ (by with_reducible assumption)))
  clear k1 k2
  have K0 := Blk.new w2 #[.int .i64 1, .string ⟨#[]⟩] 27
  go_wp2_with fail
  refine (HA1.out _).mono ?_; rintro e w3 ⟨v3, rfl, hv3, k3⟩
  replace K0 := K0.tr k3
  obtain ⟨l0, c0, f0⟩ := K0.get
  have hb3 : Below w.heap.size w w3 := by (repeat (first | with_reducible exact Below.refl _ _ | with_reducible refine kp_alloc ?_ _ | with_reducible refine kp_drew ?_ | with_reducible refine kp_set ?_ (by first | omega | (simp; done) | (simp; omega)) _ | with_reducible refine kp_tr ?_ (by with_reducible assumption)))
  clear k3 hb2
  generalize w2.heap.size = m2 at *
  obtain ⟨ad3, b3, off3, cap3, rfl, -, -, -, -, -, -⟩ := hv3.form
  clear hv3
  go_wp2_with fail
  refine (HP0.out _).mono ?_; rintro e w4 ⟨rfl, k4⟩
  replace K0 := K0.tr k4
  obtain ⟨l0, c0, f0⟩ := K0.get
  replace hb3 := kp_tr hb3 k4
  clear k4
  go_wp2_with fail
  refine (HT2.out _).mono ?_; rintro e w5 ⟨rfl, k5⟩
  simp only [tkV, frV]
  replace K0 := K0.tr k5
  obtain ⟨l0, c0, f0⟩ := K0.get
  replace hb3 := kp_tr hb3 k5
  clear k5
  replace K0 := K0.alloc (.cells #[.int .i64 0, .string ⟨#[]⟩] 27)
  replace hb3 := kp_alloc hb3 (.cells #[.int .i64 0, .string ⟨#[]⟩] 27)
  go_wp2_with fail
  refine (HT3.out _).mono ?_; rintro e w6 ⟨rfl, k6⟩
  simp only [tkV, frV]
  replace K0 := K0.tr k6
  obtain ⟨l0, c0, f0⟩ := K0.get
  replace hb3 := kp_tr hb3 k6
  clear k6
  replace K0 := K0.alloc (.cells #[.int .i64 0, .string ⟨#[]⟩] 27)
  replace hb3 := kp_alloc hb3 (.cells #[.int .i64 0, .string ⟨#[]⟩] 27)
  go_wp2_with fail
  refine (HA2.out _).mono ?_; rintro e w7 ⟨v7, rfl, hv7, k7⟩
  replace K0 := K0.tr k7
  obtain ⟨l0, c0, f0⟩ := K0.get
  replace hb3 := kp_tr hb3 k7
  clear k7 hv7
  go_wp2_with fail
  replace K0 := K0.alloc (.cells #[.int .i64 1, .string ⟨#[]⟩, .int .i64 1, .string ⟨#[]⟩] 27)
  replace hb3 := kp_alloc hb3 (.cells #[.int .i64 1, .string ⟨#[]⟩, .int .i64 1, .string ⟨#[]⟩] 27)
  refine (HJ.out _ _ (two_g (α := GFr) (k := 2) (en := encF) (fun _ => rfl) w7 (1, ⟨#[]⟩) (1, ⟨#[]⟩) _ rfl _ rfl)).mono ?_; rintro e w8 ⟨rfl, k8⟩
  replace K0 := K0.tr k8
  obtain ⟨l0, c0, f0⟩ := K0.get
  replace hb3 := kp_tr hb3 k8
  clear k8 K0
  have hfe : ∀ w', Sem.run (Go.Proofs.Ytgfgoflhmikalaa.par.loneP HC) (Op.equalIn 10000 27 (.agg #[.int .i64 1, .string ⟨#[]⟩]) (.agg #[.int .i64 1, .string ⟨#[]⟩])) w' = .ok true w' := fun w' => by rw [feq0, fbeq]; simp
  go_wp2_with fail
  go_ret
  exact ⟨rfl, hb3⟩
end Go.Proofs.Ytgfgoflhmikalaa.fr

namespace Go.Proofs.Ytgfgoflhmikalaa.fr
open Go Go.RowKit Go.Proofs.Ytgfgoflhmikalaa.cm Go.Proofs.Ytgfgoflhmikalaa.cw Go.Proofs.Ytgfgoflhmikalaa.ga Go.Proofs.Ytgfgoflhmikalaa.gr Go.Proofs.Ytgfgoflhmikalaa.lw Go.Proofs.Ytgfgoflhmikalaa.fl
set_option linter.unusedVariables false
set_option linter.unusedSimpArgs false
variable {HC : Code}
attribute [local irreducible] Go.Proofs.Ytgfgoflhmikalaa.par.loneP
/-- Frames that may be, and are no great ones. -/
def Fine (fs : List GFr) : Prop := ∀ f ∈ fs, idOk f ∧ f.2.size ≤ 100000
theorem Fine.ok {fs : List GFr} (h : Fine fs) : ∀ f ∈ fs, idOk f := fun f hf => (h f hf).1
theorem Fine.sz {fs : List GFr} (h : Fine fs) : ∀ f ∈ fs, f.2.size ≤ 100000 := fun f hf => (h f hf).2
theorem Fine.i64 {fs : List GFr} (h : Fine fs) : ∀ f ∈ fs, -9223372036854775808 ≤ f.1 ∧ f.1 < 9223372036854775808 := fun f hf => by have := (h f hf).1; unfold idOk at this; omega
theorem Fine.fr {fs : List GFr} (h : Fine fs) : ∀ f ∈ fs.map ofF, f.Ok := fun f hf => by
  obtain ⟨g, hg, rfl⟩ := List.mem_map.1 hf
  exact ofF_ok (h g hg).1 (by have := (h g hg).2; omega)
theorem Fine.take {fs : List GFr} (h : Fine fs) (k : Nat) : Fine (fs.take k) := fun f hf => h f (List.mem_of_mem_take hf)
theorem Fine.drop {fs : List GFr} (h : Fine fs) (k : Nat) : Fine (fs.drop k) := fun f hf => h f (List.mem_of_mem_drop hf)
theorem listR_fine (is : List Int) (bs : List ByteArray) : Fine (listR is bs) := fun f hf => ⟨(listR_ok f hf).1, by have := (listR_ok f hf).2; omega⟩
/-- The bytes of frames. -/
def jB (fs : List GFr) : ByteArray := ⟨(joinU fs).toArray⟩
theorem jB_N {fs : List GFr} (h : Fine fs) : bytesN (jB fs) = joinL (fs.map ofF) := joinU_N h.ok
theorem jB_R {fs : List GFr} (h : Fine fs) : joinR fs = (jB fs, 0) := by unfold joinR jB; rw [if_pos h.ok]
theorem jB_app (a b : List GFr) : jB (a ++ b) = jB a ++ jB b := by
  apply ByteArray.ext
  apply Array.toList_inj.1
  simp [jB, joinU]
theorem jB_nil : jB [] = ⟨#[]⟩ := rfl
theorem jB_one (f : GFr) : jB [f] = frameS f.1.toNat f.2 := by
  apply ByteArray.ext
  apply Array.toList_inj.1
  simp [jB, joinU, bytesU]
theorem jB_size_le {fs : List GFr} {m : Nat} (h : ∀ f ∈ fs, f.2.size ≤ m) (hm : m ≤ 100000) : (jB fs).size ≤ fs.length * (m + 15) := by
  induction fs with
  | nil => simp [jB, joinU, ByteArray.size]
  | cons f fs ih =>
    have h1 := ih (fun g hg => h g (List.mem_cons_of_mem _ hg))
    have h2 := h f (by simp)
    have h3 := frameS_size f.1.toNat f.2 (by omega)
    have e : jB (f :: fs) = frameS f.1.toNat f.2 ++ jB fs := by rw [← jB_one, ← jB_app]; rfl
    rw [e, ByteArray.size_append, List.length_cons, Nat.succ_mul]
    omega
theorem jB_all {fs : List GFr} (h : Fine fs) : allR (jB fs) = (fs, 0) := by
  rw [allR_N, jB_N h, allL_back h.fr]
  dsimp only
  rw [List.map_map]
  congr 1
  conv => rhs; rw [← List.map_id fs]
  exact List.map_congr_left fun f hf => toF_ofF (h f hf).1
theorem fr_at {fs : List GFr} (h : Fine fs) {k : Nat} (hk : k < fs.length) (more : List Nat) : pf (joinL ((fs.drop k).map ofF) ++ more) = .ok (fs.getD k (0, ⟨#[]⟩)).1.toNat (bytesN (fs.getD k (0, ⟨#[]⟩)).2) (joinL ((fs.drop (k + 1)).map ofF) ++ more) := by
  have e : fs.drop k = fs.getD k (0, ⟨#[]⟩) :: fs.drop (k + 1) := by
    rw [List.drop_eq_getElem_cons hk]
    simp [List.getD, hk]
  have hm : fs.getD k (0, ⟨#[]⟩) ∈ fs := by simp [List.getD, hk]
  have hf := h _ hm
  rw [e, List.map_cons, joinL_cons, List.append_assoc]
  exact pf_put (ofF_ok hf.1 (by have := hf.2; omega)) _
/-- Take goes from frame to frame, wherever they stand. -/
theorem tk_join (A : ByteArray) {fs : List GFr} (h : Fine fs) {k : Nat} (hk : k < fs.length) :
    tk (A ++ jB fs) (A.size + (jB (fs.take k)).size) = .ok (fs.getD k (0, ⟨#[]⟩)).1.toNat (fs.getD k (0, ⟨#[]⟩)).2 (A.size + (jB (fs.take (k + 1))).size) := by
  have e1 : jB fs = jB (fs.take k) ++ jB (fs.drop k) := by rw [← jB_app, List.take_append_drop]
  have e2 : jB fs = jB (fs.take (k + 1)) ++ jB (fs.drop (k + 1)) := by rw [← jB_app, List.take_append_drop]
  have hd : (bytesN (A ++ jB fs)).drop (A.size + (jB (fs.take k)).size) = joinL ((fs.drop k).map ofF) ++ [] := by
    rw [bytesN_app, e1, bytesN_app, ← bytesN_len A, ← bytesN_len (jB (fs.take k)), ← List.append_assoc, ← List.length_append, List.drop_left, jB_N (h.drop k), List.append_nil]
  rw [tk_N, hd, fr_at h hk]
  dsimp only
  rw [strB_bytesN, List.append_nil, ← jB_N (h.drop (k + 1)), bytesN_len]
  congr 1
  rw [ByteArray.size_append, e2, ByteArray.size_append]
  omega
theorem joinL_len : ∀ fs : List Fr, fs.length ≤ (joinL fs).length
  | [] => by simp [joinL]
  | f :: fs => by
    have := joinL_len fs
    rw [joinL_cons, List.length_append, frL_len, List.length_cons]
    omega
theorem joinL_body : ∀ (fs : List Fr), ∀ f ∈ fs, f.2.length ≤ (joinL fs).length
  | [], f, hf => by cases hf
  | g :: fs, f, hf => by
    rw [joinL_cons, List.length_append, frL_len]
    rcases List.mem_cons.1 hf with rfl | hf
    · omega
    · have := joinL_body fs f hf
      omega
theorem allL_bad : ∀ (n : Nat) (l : List Nat) (e : Int), l.length ≤ n → allL l = .bad e → ¬ e = 0 := by
  intro n
  induction n with
  | zero =>
    intro l e hn h
    have : l = [] := List.eq_nil_of_length_eq_zero (by omega)
    subst this
    cases h
  | succ n ih =>
    intro l e hn h
    cases l with
    | nil => cases h
    | cons b t =>
      rw [allL_step (by simp)] at h
      cases hp : pf (b :: t) with
      | bad e' =>
        rw [hp] at h
        cases h
        rw [pf_cons] at hp
        split at hp
        · cases hp; decide
        · split at hp
          · cases hp; decide
          · cases hp; decide
          · split at hp
            · split at hp
              · cases hp
              · cases hp; decide
            · cases hp; decide
      | ok id body rest =>
        rw [hp] at h
        have hlt := pf_lt hp
        simp only at h
        cases hr : allL rest with
        | ok gs => rw [hr] at h; cases h
        | bad e' =>
          rw [hr] at h
          cases h
          exact ih rest e (by simp at hlt hn; omega) hr
/-- What All tells, joined, is the bytes that were read. -/
theorem all_forms (u : ByteArray) (hu : u.size ≤ 10000) : (∃ e : Int, ¬ e = 0 ∧ allR u = ([], e)) ∨ ∃ fs : List GFr, allR u = (fs, 0) ∧ Fine fs ∧ fs.length ≤ 10000 ∧ jB fs = u := by
  rw [allR_N]
  have hlen := bytesN_len u
  cases h : allL (bytesN u) with
  | bad e => exact .inl ⟨e, allL_bad _ _ _ (Nat.le_refl _) h, rfl⟩
  | ok fs =>
    obtain ⟨h1, h2⟩ := allL_form _ _ _ (Nat.le_refl _) (bytesN_by u) (by omega) h
    have hle := joinL_len fs
    have hF : Fine (fs.map toF) := fun f hf => by
      obtain ⟨g, hg, rfl⟩ := List.mem_map.1 hf
      refine ⟨toF_ok (h2 g hg), ?_⟩
      have := joinL_body fs g hg
      show (strB g.2).size ≤ _
      rw [strB_size]
      rw [← h1] at this
      omega
    refine .inr ⟨fs.map toF, rfl, hF, by rw [List.length_map]; rw [← h1] at hle; omega, ?_⟩
    apply bytesN_inj
    rw [jB_N hF, List.map_map, h1]
    congr 1
    conv => rhs; rw [← List.map_id fs]
    exact List.map_congr_left fun f hf => ofF_toF (h2 f hf).2.1
/-! ### cut off -/
theorem jB_split (fs : List GFr) (k : Nat) : jB fs = jB (fs.take k) ++ jB (fs.drop k) := by rw [← jB_app, List.take_append_drop]
theorem jB_mono (fs : List GFr) (k : Nat) : (jB (fs.take k)).size ≤ (jB fs).size := by
  conv => rhs; rw [jB_split fs k, ByteArray.size_append]
  omega
theorem jB_snoc (fs : List GFr) {k : Nat} (h : k < fs.length) : jB (fs.take (k + 1)) = jB (fs.take k) ++ frameS (fs.getD k (0, ⟨#[]⟩)).1.toNat (fs.getD k (0, ⟨#[]⟩)).2 := by
  rw [← jB_one, ← jB_app]
  congr 1
  rw [List.take_add_one]
  congr 1
  simp [List.getD, h]
theorem ext_app (a b : ByteArray) (k : Nat) : (a ++ b).extract 0 (a.size + k) = a ++ b.extract 0 k := by
  apply bytesN_inj
  rw [bytesN_ext, bytesN_app, bytesN_app, bytesN_ext]
  simp only [List.drop_zero, Nat.sub_zero]
  rw [← bytesN_len, List.take_append, List.take_of_length_le (by omega), Nat.add_sub_cancel_left]
theorem cut_between {fs : List GFr} (h : Fine fs) (i : Nat) : allR ((jB fs).extract 0 (jB (fs.take i)).size) = (fs.take i, 0) := by
  have e : (jB fs).extract 0 (jB (fs.take i)).size = jB (fs.take i) := by
    have := ext_app (jB (fs.take i)) (jB (fs.drop i)) 0
    rw [← jB_split, Nat.add_zero] at this
    rw [this]
    apply bytesN_inj
    rw [bytesN_app, bytesN_ext]
    simp
  rw [e, jB_all (h.take i)]
theorem cut_zero {fs : List GFr} (h : Fine fs) : allR (jB fs ++ ⟨#[0]⟩) = ([], 3) := by
  rw [allR_N, bytesN_app, jB_N h, allL_join _ _ h.fr]
  rfl
theorem cut_find (fs : List GFr) (k : Nat) : ∀ n, n ≤ fs.length → k < (jB (fs.take n)).size → ∃ i, i < n ∧ (jB (fs.take i)).size ≤ k ∧ k < (jB (fs.take (i + 1))).size := by
  intro n
  induction n with
  | zero => intro _ h; simp [jB, joinU, ByteArray.size] at h
  | succ n ih =>
    intro hn h
    by_cases h2 : k < (jB (fs.take n)).size
    · obtain ⟨i, h3, h4⟩ := ih (by omega) h2
      exact ⟨i, by omega, h4⟩
    · exact ⟨n, by omega, by omega, h⟩
theorem cut_within {fs : List GFr} (h : Fine fs) {k : Nat} (hk : k ≤ (jB fs).size) (hn : ∀ i, i ≤ fs.length → ¬ (jB (fs.take i)).size = k) : allR ((jB fs).extract 0 k) = ([], 2) := by
  have hL := hn fs.length (Nat.le_refl _)
  rw [List.take_length] at hL
  obtain ⟨i, h1, h2, h3⟩ := cut_find fs k fs.length (Nat.le_refl _) (by rw [List.take_length]; omega)
  have h4 := hn i (by omega)
  have hs := jB_snoc fs h1
  have hm : fs.getD i (0, ⟨#[]⟩) ∈ fs := by simp [List.getD, h1]
  obtain ⟨hf, hfs⟩ := h _ hm
  generalize fs.getD i (0, ⟨#[]⟩) = f at *
  rw [hs, ByteArray.size_append] at h3
  have e : (jB fs).extract 0 k = jB (fs.take i) ++ (frameS f.1.toNat f.2).extract 0 (k - (jB (fs.take i)).size) := by
    have := ext_app (jB (fs.take i)) (frameS f.1.toNat f.2 ++ jB (fs.drop (i + 1))) (k - (jB (fs.take i)).size)
    rw [← ByteArray.append_assoc, ← hs, ← jB_split, Nat.add_sub_cancel' h2] at this
    rw [this]
    congr 1
    apply bytesN_inj
    rw [bytesN_ext, bytesN_ext, bytesN_app]
    simp only [List.drop_zero, Nat.sub_zero]
    rw [List.take_append_of_le_length (by rw [bytesN_len]; omega)]
  rw [allR_N, e, bytesN_app, jB_N (h.take i), allL_join _ _ (h.take i).fr, bytesN_ext, frameS_N _ (by have := hf.2; omega)]
  have hcut : pf ((frL f.1.toNat (bytesN f.2)).take (k - (jB (fs.take i)).size)) = .bad 2 := pf_cut (f := ofF f) (ofF_ok hf (by omega)) (m := k - (jB (fs.take i)).size) (by omega) (by
    have := frameS_N (id := f.1.toNat) f.2 (by have := hf.2; omega)
    have h5 := congrArg List.length this
    rw [bytesN_len] at h5
    show _ < (frL f.1.toNat (bytesN f.2)).length
    rw [← h5]
    omega)
  simp only [List.drop_zero, Nat.sub_zero]
  rw [allL_step, hcut]
  · rfl
  · intro e2
    have e4 := List.take_eq_nil_iff.1 e2
    rcases e4 with e4 | e4
    · omega
    · rw [frL_cons] at e4; cases e4
end Go.Proofs.Ytgfgoflhmikalaa.fr

namespace Go.Proofs.Ytgfgoflhmikalaa.fr
open Go Go.ChangeShapes Go.WideShapes Go.ChangeAt Go.RowKit Go.Joins Go.Proofs.Ytgfgoflhmikalaa.gr Go.Proofs.Ytgfgoflhmikalaa.lw Go.Proofs.Ytgfgoflhmikalaa.par
set_option linter.unusedVariables false
set_option linter.unusedSimpArgs false
section
variable {H : Type} {enc : TypeId × Value → H} {w : World} {base : Nat} {spare : Nat → Bool} {held : Bool}
theorem frame_cells {n : Nat} {cs : List Value} {y : DataW H × List MemPlace} (h : DataW.trod enc Try.prog w base spare held n 27 cs = some y) :
    ∃ x : Int × ByteArray, cs = encF x ∧ (encF x).length = 2 ∧ ((-9223372036854775808 ≤ x.1 ∧ x.1 < 9223372036854775808) ∧ x.2.size ≤ maxLen) := by
  obtain ⟨y0, y1, m, rfl, hl, h0, h1⟩ := trod_struct2 Try.underlying27 h
  have hC : Program.cellsOf Try.prog 27 = 2 := by kernel_rfl
  have hi : Program.cellsOf Try.prog 3 = 1 := by kernel_rfl
  have hs : Program.cellsOf Try.prog 9 = 1 := by kernel_rfl
  rw [hC] at hl
  obtain ⟨c0, c1, rfl⟩ : ∃ c0 c1, cs = [c0, c1] := by
    rcases cs with _ | ⟨c0, _ | ⟨c1, _ | ⟨c2, l⟩⟩⟩
    · cases hl
    · cases hl
    · exact ⟨c0, c1, rfl⟩
    · simp at hl
  · have h0' : DataW.trod enc Try.prog w base spare held m 3 (([c0, c1].drop 0).take (Program.cellsOf Try.prog 3)) = some y0 := h0
    have h1' : DataW.trod enc Try.prog w base spare held m 9 (([c0, c1].drop 1).take (Program.cellsOf Try.prog 9)) = some y1 := h1
    rw [hi] at h0'
    rw [hs] at h1'
    simp only [List.drop_zero, List.drop_succ_cons, List.take_succ_cons, List.take_zero] at h0' h1'
    obtain ⟨a0, e0, _, w0⟩ := DataW.trod_int Try.underlying3 h0'
    obtain ⟨a1, e1, _, w1⟩ := DataW.trod_string Try.underlying9 h1'
    simp at e0 e1
    subst e0 e1
    exact ⟨(a0, a1), rfl, rfl, wfb_i64 w0, w1⟩
set_option maxRecDepth 100000 in
set_option linter.constructorNameAsVariable false in
theorem frames_arg {r : Reach} {b0 : Nat} {v : Value} {d : DataW H} {p : List MemPlace} (hv : Value.okWide Try.prog w r b0 22 v) (h : DataW.Trod enc Try.prog w base spare held 22 v d p) :
    ∃ l : List (Int × ByteArray), RIn 2 encF w v l ∧ ∀ x ∈ l, (-9223372036854775808 ≤ x.1 ∧ x.1 < 9223372036854775808) ∧ x.2.size ≤ maxLen :=
  rin_arg (P := Try.prog) (k := 2) (en := encF) (ok := fun x => (-9223372036854775808 ≤ x.1 ∧ x.1 < 9223372036854775808) ∧ x.2.size ≤ maxLen) (E := 27) Try.underlying22 (by kernel_rfl) (Nat.zero_lt_two) (fun n cs y h => frame_cells h) hv h
end
theorem encF_clv : ∀ x, ∀ y ∈ encF x, ∀ f, clv f y = y := by
  intro x y hy f
  simp [encF] at hy
  rcases hy with rfl | rfl <;> (unfold clv; rfl)
end Go.Proofs.Ytgfgoflhmikalaa.fr
