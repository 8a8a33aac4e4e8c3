/- Part 19 of what the proofs stand on: lemmas on worlds, on goroutines, contracts of functions. No conditions. -/
import Derived.Test.YtgfgoflhmikalaaM18
import Derived.Conc.WgGenWait
namespace Go.Proofs.Ytgfgoflhmikalaa.par
open Go Go.Conc Go.RowKit Go.Conc.Lib Go.ConcR.Gen Go.ConcN.Gen
open Go.ConcR (stA smA WgAt KK rd wr mk DC0)
open Go.ConcN (st_flag st_waiters)
set_option linter.unusedVariables false
set_option linter.unusedSimpArgs false
set_option maxRecDepth 100000
section
variable {L : WgLink} {P : Program} {I : World → Prop} {Wg : Nat}
/-- The load that reads 0; the semaphore; the swap; the first load. -/
def V4 (P : Program) (I : World → Prop) (tW : TypeId) (Wg : Nat) (S : Goroutine → World → Prop) (g : Goroutine) (w : World) : Prop :=
  g.status = .running ∧ (WgAt tW Wg w 0 0 → ∃ g', stepG P true g w = .go g' w #[rd (stA Wg)] ∧ ∃ m, GoI P true I S m g')
def V3 (P : Program) (I : World → Prop) (tW : TypeId) (Wg : Nat) (S : Goroutine → World → Prop) (g : Goroutine) (w : World) : Prop :=
  g.status = .running ∧ g.offers = none ∧ ((∃ st, WgAt tW Wg w st 0) → stepG P true g w = .go { g with status := .blocked } w #[]) ∧
    (WgAt tW Wg w 0 1 → ∃ g', stepG P true g w = .go g' (w.setCell (smA Wg) (.int .u32 0)) (semEvents (smA Wg)) ∧ ∃ m, GoI P true I S m g')
def V2 (P : Program) (I : World → Prop) (tW : TypeId) (Wg vs : Nat) (S A : Goroutine → World → Prop) (g : Goroutine) (w : World) : Prop :=
  g.status = .running ∧ ∀ v : Nat, v < 2147483648 → WgAt tW Wg w (v * KK) 0 →
    (v = vs → ∃ g', stepG P true g w = .go g' (w.setCell (stA Wg) (.int .u64 (v * KK + 1))) #[rd (stA Wg), wr (stA Wg)] ∧ ∃ m, GoI P true I S m g') ∧
    (v ≠ vs → ∃ g', stepG P true g w = .go g' w #[rd (stA Wg)] ∧ ∃ m, GoI P true I A m g')
def V1 (P : Program) (I : World → Prop) (tW : TypeId) (Wg : Nat) (Z : Goroutine → World → Prop) (S2 : Nat → Goroutine → World → Prop) (g : Goroutine) (w : World) : Prop :=
  g.status = .running ∧ ∀ v : Nat, v < 2147483648 → WgAt tW Wg w (v * KK) 0 →
    ∃ g', stepG P true g w = .go g' w #[rd (stA Wg)] ∧ (v = 0 → ∃ m, GoI P true I Z m g') ∧ (v ≠ 0 → ∃ m, GoI P true I (S2 v) m g')
/-- At the head of Wait's loop. -/
def WHead (L : WgLink) (Wg : Nat) (c : Frame) (cs : List Frame) (g : Goroutine) : Prop :=
  ∃ T : Array Value, g = G ((base L.wait).at ⟨T, []⟩ [.code (L7 L), .inLoop (L7 L), .inBlock 0]) (c :: cs) ∧ T.size = 84 ∧ T[0]? = some (.pointer (some ⟨Wg, 0, none⟩))
/-- Behind the count: 'enable', 'acquire', and back. -/
abbrev VE (P : Program) (I : World → Prop) (Wg : Nat) (S : Goroutine → World → Prop) : Goroutine → World → Prop := Q3 P I (mk .enable) (Q3 P I (mk (.acquire (stA Wg))) S)
set_option maxHeartbeats 8000000 in
theorem wait_round (H : WgLib P L) (hI : ∀ {w : World}, I w → ∃ st sm, WgAt L.tWg Wg w st sm) {b₀ : Frame} {a₀ : Act} {ops₀ : Array Oper} {i₀ : Nat} {rest₀ : List Nat} {k₀ : List Item} {cs : List Frame} (S : Goroutine → World → Prop)
    (hS : ∀ g w, g = G (b₀.at (a₀.put ((ops₀[i₀]?).bind (·.dst)) (.tuple #[])) (.inRegion ops₀ rest₀ :: k₀)) cs → S g w) (g : Goroutine) (h : WHead L Wg (b₀.at a₀ (.inRegion ops₀ (i₀ :: rest₀) :: k₀)) cs g) :
    GoI P true I (V1 P I L.tWg Wg (VE P I Wg S) (fun vs => V2 P I L.tWg Wg vs (Q3 P I (mk (.write (smA Wg))) (V3 P I L.tWg Wg (V4 P I L.tWg Wg (VE P I Wg S)))) (fun g _ => WHead L Wg (b₀.at a₀ (.inRegion ops₀ (i₀ :: rest₀) :: k₀)) cs g))) 30 g := by
  lib_facts
  obtain ⟨T, rfl, hT84, t0⟩ := h
  obtain ⟨v0, v1, v2, v3, v4, v5, v6, v7, v8, v9, v10, v11, v12, v13, v14, v15, v16, v17, v18, v19, v20, v21, v22, v23, v24, v25, v26, v27, v28, v29, v30, v31, v32, v33, v34, v35, v36, v37, v38, v39, v40, v41, v42, v43, v44, v45, v46, v47, v48, v49, v50, v51, v52, v53, v54, v55, v56, v57, v58, v59, v60, v61, v62, v63, v64, v65, v66, v67, v68, v69, v70, v71, v72, v73, v74, v75, v76, v77, v78, v79, v80, v81, v82, v83, rfl⟩ := array84 T hT84
  simp only [List.getElem?_toArray, List.getElem?_cons_zero, Option.some.injEq] at t0
  subst t0
  clear hT84
  simp only [L7, body_wait, waitFn, Option.getD_some]
  (with_reducible apply gi_block)
  (with_reducible apply gi_seq)
  ((with_reducible apply gi_region); simp only [List.size_toArray, List.length_cons, List.length_nil, Nat.reduceAdd, Nat.zero_add, List.range, List.range.loop])
  ((with_reducible refine gi_value (v := ?_) (o := ?_) ?_ ?_ ?_ (fun _ _ => ?_) (fun _ _ => ?_) ?_); rotate_left 2; (focus exact rfl); (focus exact rfl); (focus k_ne); (focus (go_simp; (try w_num); first | done | exact rfl)); (focus (simp [go_sem, *]; done)); walk_nrm)
  ((with_reducible refine gi_value (v := ?_) (o := ?_) ?_ ?_ ?_ (fun _ _ => ?_) (fun _ _ => ?_) ?_); rotate_left 2; (focus exact rfl); (focus exact rfl); (focus k_ne); (focus (go_simp; (try w_num); first | done | exact rfl)); (focus (simp [go_sem, *]; done)); walk_nrm)
  ((with_reducible refine gi_value (v := ?_) (o := ?_) ?_ ?_ ?_ (fun _ _ => ?_) (fun _ _ => ?_) ?_); rotate_left 2; (focus exact rfl); (focus exact rfl); (focus k_ne); (focus (go_simp; (try w_num); first | done | exact rfl)); (focus (simp [go_sem, *]; done)); walk_nrm)
  (refine gi_call rfl rfl (by k_ne) rfl H.f_uLoad (nm_uLoad L) rfl ?_; walk_nrmf uLoadFn)
  (with_reducible apply gi_seq)
  ((with_reducible apply gi_region); simp only [List.size_toArray, List.length_cons, List.length_nil, Nat.reduceAdd, Nat.zero_add, List.range, List.range.loop])
  ((with_reducible refine gi_value (v := ?_) (o := ?_) ?_ ?_ ?_ (fun _ _ => ?_) (fun _ _ => ?_) ?_); rotate_left 2; (focus exact rfl); (focus exact rfl); (focus k_ne); (focus (go_simp; (try w_num); first | done | exact rfl)); (focus (simp [go_sem, *]; done)); walk_nrm)
  (with_reducible apply gi_regend)
  (with_reducible apply gi_seq)
  ((with_reducible apply gi_region); simp only [List.size_toArray, List.length_cons, List.length_nil, Nat.reduceAdd, Nat.zero_add, List.range, List.range.loop])
  ((with_reducible refine gi_value (v := ?_) (o := ?_) ?_ ?_ ?_ (fun _ _ => ?_) (fun _ _ => ?_) ?_); rotate_left 2; (focus exact rfl); (focus exact rfl); (focus k_ne); (focus (go_simp; (try w_num); first | done | exact rfl)); (focus (simp [go_sem, *]; done)); walk_nrm)
  ((with_reducible refine gi_value (v := ?_) (o := ?_) ?_ ?_ ?_ (fun _ _ => ?_) (fun _ _ => ?_) ?_); rotate_left 2; (focus exact rfl); (focus exact rfl); (focus k_ne); (focus (go_simp; (try w_num); first | done | exact rfl)); (focus (simp [go_sem, *]; done)); walk_nrm)
  ((with_reducible refine gi_value (v := ?_) (o := ?_) ?_ ?_ ?_ (fun _ _ => ?_) (fun _ _ => ?_) ?_); rotate_left 2; (focus exact rfl); (focus exact rfl); (focus k_ne); (focus (go_simp; (try w_num); first | done | exact rfl)); (focus (simp [go_sem, *]; done)); walk_nrm)
  refine GoD.halt fun w₁ h₁ => ?_
  clear h₁
  refine ⟨rfl, fun v hv hw => ?_⟩
  rcases Nat.eq_zero_or_pos v with rfl | hvp
  · replace hw : WgAt L.tWg Wg w₁ 0 0 := by simpa using hw
    refine ⟨_, stepG_load_atomic (v := 0) rfl rfl (by k_ne) rfl H.f_loadU64 (x_loadU64_n L) (x_loadU64_b L) (x_loadU64_x L) .u64 (x_loadU64_f L) rfl hw.cellSt, fun _ => ⟨60, ?_⟩, fun h => absurd rfl h⟩
    clear hw w₁
    walk_nrm
    ((with_reducible refine gi_value (v := ?_) (o := ?_) ?_ ?_ ?_ (fun _ _ => ?_) (fun _ _ => ?_) ?_); rotate_left 2; (focus exact rfl); (focus exact rfl); (focus k_ne); (focus (go_simp; (try w_num); first | done | exact rfl)); (focus (simp [go_sem, *]; done)); walk_nrm)
    (with_reducible apply gi_regend)
    (with_reducible apply gi_ret)
    (refine gi_leave1 rfl rfl H.f_uLoad rfl ?_; walk_nrm)
    ((with_reducible refine gi_value (v := ?_) (o := ?_) ?_ ?_ ?_ (fun _ _ => ?_) (fun _ _ => ?_) ?_); rotate_left 2; (focus exact rfl); (focus exact rfl); (focus k_ne); (focus (go_simp; (try w_num); first | done | exact rfl)); (focus (simp [go_sem, *]; done)); walk_nrm)
    (with_reducible apply gi_regend)
    (with_reducible apply gi_seq)
    ((with_reducible apply gi_region); simp only [List.size_toArray, List.length_cons, List.length_nil, Nat.reduceAdd, Nat.zero_add, List.range, List.range.loop])
    ((with_reducible refine gi_value (v := ?_) (o := ?_) ?_ ?_ ?_ (fun _ _ => ?_) (fun _ _ => ?_) ?_); rotate_left 2; (focus exact rfl); (focus exact rfl); (focus k_ne); (focus (go_simp; (try w_num); first | done | exact rfl)); (focus (simp [go_sem, *]; done)); walk_nrm)
    ((with_reducible refine gi_value (v := ?_) (o := ?_) ?_ ?_ ?_ (fun _ _ => ?_) (fun _ _ => ?_) ?_); rotate_left 2; (focus exact rfl); (focus exact rfl); (focus k_ne); (focus (go_simp; (try w_num); first | done | exact rfl)); (focus (simp [go_sem, *]; done)); walk_nrm)
    ((with_reducible refine gi_value (v := ?_) (o := ?_) ?_ ?_ ?_ (fun _ _ => ?_) (fun _ _ => ?_) ?_); rotate_left 2; (focus exact rfl); (focus exact rfl); (focus k_ne); (focus (go_simp; (try w_num); first | done | exact rfl)); (focus (simp [go_sem, *]; done)); walk_nrm)
    ((with_reducible refine gi_value (v := ?_) (o := ?_) ?_ ?_ ?_ (fun _ _ => ?_) (fun _ _ => ?_) ?_); rotate_left 2; (focus exact rfl); (focus exact rfl); (focus k_ne); (focus (go_simp; (try w_num); first | done | exact rfl)); (focus (simp [go_sem, *]; done)); walk_nrm)
    (with_reducible apply gi_regend)
    (with_reducible apply gi_seq)
    ((with_reducible apply gi_region); simp only [List.size_toArray, List.length_cons, List.length_nil, Nat.reduceAdd, Nat.zero_add, List.range, List.range.loop])
    ((with_reducible refine gi_value (v := ?_) (o := ?_) ?_ ?_ ?_ (fun _ _ => ?_) (fun _ _ => ?_) ?_); rotate_left 2; (focus exact rfl); (focus exact rfl); (focus k_ne); (focus (go_simp; (try w_num); first | done | exact rfl)); (focus (simp [go_sem, *]; done)); walk_nrm)
    ((with_reducible refine gi_value (v := ?_) (o := ?_) ?_ ?_ ?_ (fun _ _ => ?_) (fun _ _ => ?_) ?_); rotate_left 2; (focus exact rfl); (focus exact rfl); (focus k_ne); (focus (go_simp; (try w_num); first | done | exact rfl)); (focus (simp [go_sem, *]; done)); walk_nrm)
    ((with_reducible refine gi_value (v := ?_) (o := ?_) ?_ ?_ ?_ (fun _ _ => ?_) (fun _ _ => ?_) ?_); rotate_left 2; (focus exact rfl); (focus exact rfl); (focus k_ne); (focus (go_simp; (try w_num); first | done | exact rfl)); (focus (simp [go_sem, *]; done)); walk_nrm)
    ((with_reducible refine gi_value (v := ?_) (o := ?_) ?_ ?_ ?_ (fun _ _ => ?_) (fun _ _ => ?_) ?_); rotate_left 2; (focus exact rfl); (focus exact rfl); (focus k_ne); (focus (go_simp; (try w_num); first | done | exact rfl)); (focus (simp [go_sem, *]; done)); walk_nrm)
    (with_reducible apply gi_regend)
    (with_reducible apply gi_seq)
    (with_reducible apply gi_seq)
    ((with_reducible apply gi_region); simp only [List.size_toArray, List.length_cons, List.length_nil, Nat.reduceAdd, Nat.zero_add, List.range, List.range.loop])
    ((with_reducible refine gi_value (v := ?_) (o := ?_) ?_ ?_ ?_ (fun _ _ => ?_) (fun _ _ => ?_) ?_); rotate_left 2; (focus exact rfl); (focus exact rfl); (focus k_ne); (focus (go_simp; (try w_num); first | done | exact rfl)); (focus (simp [go_sem, *]; done)); walk_nrm)
    ((with_reducible refine gi_value (v := ?_) (o := ?_) ?_ ?_ ?_ (fun _ _ => ?_) (fun _ _ => ?_) ?_); rotate_left 2; (focus exact rfl); (focus exact rfl); (focus k_ne); (focus (go_simp; (try w_num); first | done | exact rfl)); (focus (simp [go_sem, *]; done)); walk_nrm)
    (with_reducible apply gi_regend)
    ((with_reducible apply gi_cod (t := true)); (focus first | rfl | (simp [Act.eval]; done) | (simp [Act.eval]; omega)); simp only [if_true, if_false, Bool.false_eq_true, ↓reduceIte])
    (with_reducible apply gi_seq)
    ((with_reducible apply gi_cod (t := true)); (focus first | rfl | (simp [Act.eval]; done) | (simp [Act.eval]; omega)); simp only [if_true, if_false, Bool.false_eq_true, ↓reduceIte])
    (with_reducible apply gi_seq)
    ((with_reducible apply gi_region); simp only [List.size_toArray, List.length_cons, List.length_nil, Nat.reduceAdd, Nat.zero_add, List.range, List.range.loop])
    refine GoD.halt fun w₁ h₁ => ?_
    clear h₁
    refine ⟨rfl, _, stepG_mark0 .enable (by simp) rfl rfl (by k_ne) rfl H.f_enable (x_enable_n L) (x_enable_b L) (x_enable_x L) (x_enable_f L), 12, ?_⟩
    clear w₁
    walk_nrm
    (with_reducible apply gi_regend)
    ((with_reducible apply gi_region); simp only [List.size_toArray, List.length_cons, List.length_nil, Nat.reduceAdd, Nat.zero_add, List.range, List.range.loop])
    ((with_reducible refine gi_value (v := ?_) (o := ?_) ?_ ?_ ?_ (fun _ _ => ?_) (fun _ _ => ?_) ?_); rotate_left 2; (focus exact rfl); (focus exact rfl); (focus k_ne); (focus (go_simp; (try w_num); first | done | exact rfl)); (focus (simp [go_sem, *]; done)); walk_nrm)
    (refine gi_conv H.underlying_tWgP H.underlying_tUP H.room_tWg (fun w hw => (wg_cell0 (hI hw))) rfl rfl (by k_ne) rfl rfl ?_; walk_nrm)
    refine GoD.halt fun w₁ h₁ => ?_
    clear h₁
    refine ⟨rfl, _, stepG_markAt .acquire (by simp) rfl rfl (by k_ne) rfl H.f_acquire (x_acquire_n L) (x_acquire_b L) (x_acquire_x L) (x_acquire_f L) (by simp [Act.eval, stA]), ⟨30, ?_⟩⟩
    clear w₁
    walk_nrm
    (with_reducible apply gi_regend)
    (with_reducible apply gi_seq)
    (with_reducible apply gi_seq)
    ((with_reducible apply gi_region); simp only [List.size_toArray, List.length_cons, List.length_nil, Nat.reduceAdd, Nat.zero_add, List.range, List.range.loop])
    ((with_reducible refine gi_value (v := ?_) (o := ?_) ?_ ?_ ?_ (fun _ _ => ?_) (fun _ _ => ?_) ?_); rotate_left 2; (focus exact rfl); (focus exact rfl); (focus k_ne); (focus (go_simp; (try w_num); first | done | exact rfl)); (focus (simp [go_sem, *]; done)); walk_nrm)
    ((with_reducible refine gi_value (v := ?_) (o := ?_) ?_ ?_ ?_ (fun _ _ => ?_) (fun _ _ => ?_) ?_); rotate_left 2; (focus exact rfl); (focus exact rfl); (focus k_ne); (focus (go_simp; (try w_num); first | done | exact rfl)); (focus (simp [go_sem, *]; done)); walk_nrm)
    ((with_reducible refine gi_value (v := ?_) (o := ?_) ?_ ?_ ?_ (fun _ _ => ?_) (fun _ _ => ?_) ?_); rotate_left 2; (focus exact rfl); (focus exact rfl); (focus k_ne); (focus (go_simp; (try w_num); first | done | exact rfl)); (focus (simp [go_sem, *]; done)); walk_nrm)
    ((with_reducible refine gi_value (v := ?_) (o := ?_) ?_ ?_ ?_ (fun _ _ => ?_) (fun _ _ => ?_) ?_); rotate_left 2; (focus exact rfl); (focus exact rfl); (focus k_ne); (focus (go_simp; (try w_num); first | done | exact rfl)); (focus (simp [go_sem, *]; done)); walk_nrm)
    ((with_reducible refine gi_value (v := ?_) (o := ?_) ?_ ?_ ?_ (fun _ _ => ?_) (fun _ _ => ?_) ?_); rotate_left 2; (focus exact rfl); (focus exact rfl); (focus k_ne); (focus (go_simp; (try w_num); first | done | exact rfl)); (focus (simp [go_sem, *]; done)); walk_nrm)
    ((with_reducible refine gi_value (v := ?_) (o := ?_) ?_ ?_ ?_ (fun _ _ => ?_) (fun _ _ => ?_) ?_); rotate_left 2; (focus exact rfl); (focus exact rfl); (focus k_ne); (focus (go_simp; (try w_num); first | done | exact rfl)); (focus (simp [go_sem, *]; done)); walk_nrm)
    ((with_reducible refine gi_value (v := ?_) (o := ?_) ?_ ?_ ?_ (fun _ _ => ?_) (fun _ _ => ?_) ?_); rotate_left 2; (focus exact rfl); (focus exact rfl); (focus k_ne); (focus (go_simp; (try w_num); first | done | exact rfl)); (focus (simp [go_sem, *]; done)); walk_nrm)
    ((with_reducible refine gi_value (v := ?_) (o := ?_) ?_ ?_ ?_ (fun _ _ => ?_) (fun _ _ => ?_) ?_); rotate_left 2; (focus exact rfl); (focus exact rfl); (focus k_ne); (focus (go_simp; (try w_num); first | done | exact rfl)); (focus (simp [go_sem, *]; done)); walk_nrm)
    ((with_reducible refine gi_unwanted (o := ?_) ?_ ?_ ?_); rotate_left; (focus exact rfl); (focus exact rfl); walk_nrm)
    ((with_reducible refine gi_unwanted (o := ?_) ?_ ?_ ?_); rotate_left; (focus exact rfl); (focus exact rfl); walk_nrm)
    ((with_reducible refine gi_value (v := ?_) (o := ?_) ?_ ?_ ?_ (fun _ _ => ?_) (fun _ _ => ?_) ?_); rotate_left 2; (focus exact rfl); (focus exact rfl); (focus k_ne); (focus (go_simp; (try w_num); first | done | exact rfl)); (focus (simp [go_sem, *]; done)); walk_nrm)
    (with_reducible apply gi_regend)
    ((with_reducible apply gi_cod (t := false)); (focus first | rfl | (simp [Act.eval]; done) | (simp [Act.eval]; omega)); simp only [if_true, if_false, Bool.false_eq_true, ↓reduceIte])
    (with_reducible apply gi_codeskip)
    (with_reducible apply gi_ret)
    (refine gi_leave0 rfl rfl H.f_wait rfl ?_; walk_nrm)
    exact GoD.halt fun w₁ h₁ => hS _ _ rfl
  · obtain ⟨SS, hSS⟩ : ∃ S : Int, (v : Int) * KK = S := ⟨_, rfl⟩
    have a1 : SS / 4294967296 = (v : Int) := by rw [← hSS]; simp only [KK]; omega
    have b1 : bits .and .u64 SS 2147483648 = 0 := by rw [← hSS]; have := st_flag v 0 (by omega) (by omega); simpa [KK] using this
    have b2 : bits .and .u64 SS 2147483647 = 0 := by rw [← hSS]; have := st_waiters v 0 (by omega) (by omega); simpa [KK] using this
    have c1 : IntKind.i32.wrap (v : Int) = (v : Int) := by rw [IntKind.wrap_i32]; omega
    have w1 : IntKind.u64.wrap (SS + 1) = SS + 1 := by rw [IntKind.wrap_u64, ← hSS]; simp only [KK]; omega
    have q3 : decide ((v : Int) < 0) = false := decide_eq_false (by omega)
    have q4 : decide (0 < (v : Int)) = true := decide_eq_true (by omega)
    have q5 : ((v : Int) == 0) = false := by simp; omega
    have q6 : decide ((v : Int) = 0) = false := decide_eq_false (by omega)
    rw [hSS] at hw
    refine ⟨_, stepG_load_atomic (v := SS) rfl rfl (by k_ne) rfl H.f_loadU64 (x_loadU64_n L) (x_loadU64_b L) (x_loadU64_x L) .u64 (x_loadU64_f L) rfl hw.cellSt, fun h0 => absurd h0 (by omega), fun _ => ⟨70, ?_⟩⟩
    clear hw w₁
    walk_nrm
    ((with_reducible refine gi_value (v := ?_) (o := ?_) ?_ ?_ ?_ (fun _ _ => ?_) (fun _ _ => ?_) ?_); rotate_left 2; (focus exact rfl); (focus exact rfl); (focus k_ne); (focus (go_simp; (try simp only [a1, b1, b2, c1, w1, q3, q4, q5, q6]); (try w_num); first | done | exact rfl)); (focus (simp [go_sem, *]; done)); walk_nrm)
    (with_reducible apply gi_regend)
    (with_reducible apply gi_ret)
    (refine gi_leave1 rfl rfl H.f_uLoad rfl ?_; walk_nrm)
    ((with_reducible refine gi_value (v := ?_) (o := ?_) ?_ ?_ ?_ (fun _ _ => ?_) (fun _ _ => ?_) ?_); rotate_left 2; (focus exact rfl); (focus exact rfl); (focus k_ne); (focus (go_simp; (try simp only [a1, b1, b2, c1, w1, q3, q4, q5, q6]); (try w_num); first | done | exact rfl)); (focus (simp [go_sem, *]; done)); walk_nrm)
    (with_reducible apply gi_regend)
    (with_reducible apply gi_seq)
    ((with_reducible apply gi_region); simp only [List.size_toArray, List.length_cons, List.length_nil, Nat.reduceAdd, Nat.zero_add, List.range, List.range.loop])
    ((with_reducible refine gi_value (v := ?_) (o := ?_) ?_ ?_ ?_ (fun _ _ => ?_) (fun _ _ => ?_) ?_); rotate_left 2; (focus exact rfl); (focus exact rfl); (focus k_ne); (focus (go_simp; (try simp only [a1, b1, b2, c1, w1, q3, q4, q5, q6]); (try w_num); first | done | exact rfl)); (focus (simp [go_sem, *]; done)); walk_nrm)
    ((with_reducible refine gi_value (v := ?_) (o := ?_) ?_ ?_ ?_ (fun _ _ => ?_) (fun _ _ => ?_) ?_); rotate_left 2; (focus exact rfl); (focus exact rfl); (focus k_ne); (focus (go_simp; (try simp only [a1, b1, b2, c1, w1, q3, q4, q5, q6]); (try w_num); first | done | exact rfl)); (focus (simp [go_sem, *]; done)); walk_nrm)
    ((with_reducible refine gi_value (v := ?_) (o := ?_) ?_ ?_ ?_ (fun _ _ => ?_) (fun _ _ => ?_) ?_); rotate_left 2; (focus exact rfl); (focus exact rfl); (focus k_ne); (focus (go_simp; (try simp only [a1, b1, b2, c1, w1, q3, q4, q5, q6]); (try w_num); first | done | exact rfl)); (focus (simp [go_sem, *]; done)); walk_nrm)
    ((with_reducible refine gi_value (v := ?_) (o := ?_) ?_ ?_ ?_ (fun _ _ => ?_) (fun _ _ => ?_) ?_); rotate_left 2; (focus exact rfl); (focus exact rfl); (focus k_ne); (focus (go_simp; (try simp only [a1, b1, b2, c1, w1, q3, q4, q5, q6]); (try w_num); first | done | exact rfl)); (focus (simp [go_sem, *]; done)); walk_nrm)
    (with_reducible apply gi_regend)
    (with_reducible apply gi_seq)
    ((with_reducible apply gi_region); simp only [List.size_toArray, List.length_cons, List.length_nil, Nat.reduceAdd, Nat.zero_add, List.range, List.range.loop])
    ((with_reducible refine gi_value (v := ?_) (o := ?_) ?_ ?_ ?_ (fun _ _ => ?_) (fun _ _ => ?_) ?_); rotate_left 2; (focus exact rfl); (focus exact rfl); (focus k_ne); (focus (go_simp; (try simp only [a1, b1, b2, c1, w1, q3, q4, q5, q6]); (try w_num); first | done | exact rfl)); (focus (simp [go_sem, *]; done)); walk_nrm)
    ((with_reducible refine gi_value (v := ?_) (o := ?_) ?_ ?_ ?_ (fun _ _ => ?_) (fun _ _ => ?_) ?_); rotate_left 2; (focus exact rfl); (focus exact rfl); (focus k_ne); (focus (go_simp; (try simp only [a1, b1, b2, c1, w1, q3, q4, q5, q6]); (try w_num); first | done | exact rfl)); (focus (simp [go_sem, *]; done)); walk_nrm)
    ((with_reducible refine gi_value (v := ?_) (o := ?_) ?_ ?_ ?_ (fun _ _ => ?_) (fun _ _ => ?_) ?_); rotate_left 2; (focus exact rfl); (focus exact rfl); (focus k_ne); (focus (go_simp; (try simp only [a1, b1, b2, c1, w1, q3, q4, q5, q6]); (try w_num); first | done | exact rfl)); (focus (simp [go_sem, *]; done)); walk_nrm)
    ((with_reducible refine gi_value (v := ?_) (o := ?_) ?_ ?_ ?_ (fun _ _ => ?_) (fun _ _ => ?_) ?_); rotate_left 2; (focus exact rfl); (focus exact rfl); (focus k_ne); (focus (go_simp; (try simp only [a1, b1, b2, c1, w1, q3, q4, q5, q6]); (try w_num); first | done | exact rfl)); (focus (simp [go_sem, *]; done)); walk_nrm)
    (with_reducible apply gi_regend)
    (with_reducible apply gi_seq)
    (with_reducible apply gi_seq)
    ((with_reducible apply gi_region); simp only [List.size_toArray, List.length_cons, List.length_nil, Nat.reduceAdd, Nat.zero_add, List.range, List.range.loop])
    ((with_reducible refine gi_value (v := ?_) (o := ?_) ?_ ?_ ?_ (fun _ _ => ?_) (fun _ _ => ?_) ?_); rotate_left 2; (focus exact rfl); (focus exact rfl); (focus k_ne); (focus (go_simp; (try simp only [a1, b1, b2, c1, w1, q3, q4, q5, q6]); (try w_num); first | done | exact rfl)); (focus (simp [go_sem, *]; done)); walk_nrm)
    ((with_reducible refine gi_value (v := ?_) (o := ?_) ?_ ?_ ?_ (fun _ _ => ?_) (fun _ _ => ?_) ?_); rotate_left 2; (focus exact rfl); (focus exact rfl); (focus k_ne); (focus (go_simp; (try simp only [a1, b1, b2, c1, w1, q3, q4, q5, q6]); (try w_num); first | done | exact rfl)); (focus (simp [go_sem, *]; done)); walk_nrm)
    (with_reducible apply gi_regend)
    ((with_reducible apply gi_cod (t := false)); (focus first | rfl | (simp [Act.eval]; done) | (simp [Act.eval]; omega)); simp only [if_true, if_false, Bool.false_eq_true, ↓reduceIte])
    (with_reducible apply gi_codeskip)
    (with_reducible apply gi_seq)
    ((with_reducible apply gi_region); simp only [List.size_toArray, List.length_cons, List.length_nil, Nat.reduceAdd, Nat.zero_add, List.range, List.range.loop])
    ((with_reducible refine gi_value (v := ?_) (o := ?_) ?_ ?_ ?_ (fun _ _ => ?_) (fun _ _ => ?_) ?_); rotate_left 2; (focus exact rfl); (focus exact rfl); (focus k_ne); (focus (go_simp; (try simp only [a1, b1, b2, c1, w1, q3, q4, q5, q6]); (try w_num); first | done | exact rfl)); (focus (simp [go_sem, *]; done)); walk_nrm)
    ((with_reducible refine gi_value (v := ?_) (o := ?_) ?_ ?_ ?_ (fun _ _ => ?_) (fun _ _ => ?_) ?_); rotate_left 2; (focus exact rfl); (focus exact rfl); (focus k_ne); (focus (go_simp; (try simp only [a1, b1, b2, c1, w1, q3, q4, q5, q6]); (try w_num); first | done | exact rfl)); (focus (simp [go_sem, *]; done)); walk_nrm)
    ((with_reducible refine gi_value (v := ?_) (o := ?_) ?_ ?_ ?_ (fun _ _ => ?_) (fun _ _ => ?_) ?_); rotate_left 2; (focus exact rfl); (focus exact rfl); (focus k_ne); (focus (go_simp; (try simp only [a1, b1, b2, c1, w1, q3, q4, q5, q6]); (try w_num); first | done | exact rfl)); (focus (simp [go_sem, *]; done)); walk_nrm)
    ((with_reducible refine gi_value (v := ?_) (o := ?_) ?_ ?_ ?_ (fun _ _ => ?_) (fun _ _ => ?_) ?_); rotate_left 2; (focus exact rfl); (focus exact rfl); (focus k_ne); (focus (go_simp; (try simp only [a1, b1, b2, c1, w1, q3, q4, q5, q6]); (try w_num); first | done | exact rfl)); (focus (simp [go_sem, *]; done)); walk_nrm)
    ((with_reducible refine gi_value (v := ?_) (o := ?_) ?_ ?_ ?_ (fun _ _ => ?_) (fun _ _ => ?_) ?_); rotate_left 2; (focus exact rfl); (focus exact rfl); (focus k_ne); (focus (go_simp; (try simp only [a1, b1, b2, c1, w1, q3, q4, q5, q6]); (try w_num); first | done | exact rfl)); (focus (simp [go_sem, *]; done)); walk_nrm)
    ((with_reducible refine gi_value (v := ?_) (o := ?_) ?_ ?_ ?_ (fun _ _ => ?_) (fun _ _ => ?_) ?_); rotate_left 2; (focus exact rfl); (focus exact rfl); (focus k_ne); (focus (go_simp; (try simp only [a1, b1, b2, c1, w1, q3, q4, q5, q6]); (try w_num); first | done | exact rfl)); (focus (simp [go_sem, *]; done)); walk_nrm)
    (refine gi_call rfl rfl (by k_ne) rfl H.f_uCas (nm_uCas L) rfl ?_; walk_nrmf uCasFn)
    (with_reducible apply gi_seq)
    ((with_reducible apply gi_region); simp only [List.size_toArray, List.length_cons, List.length_nil, Nat.reduceAdd, Nat.zero_add, List.range, List.range.loop])
    ((with_reducible refine gi_value (v := ?_) (o := ?_) ?_ ?_ ?_ (fun _ _ => ?_) (fun _ _ => ?_) ?_); rotate_left 2; (focus exact rfl); (focus exact rfl); (focus k_ne); (focus (go_simp; (try simp only [a1, b1, b2, c1, w1, q3, q4, q5, q6]); (try w_num); first | done | exact rfl)); (focus (simp [go_sem, *]; done)); walk_nrm)
    (with_reducible apply gi_regend)
    (with_reducible apply gi_seq)
    ((with_reducible apply gi_region); simp only [List.size_toArray, List.length_cons, List.length_nil, Nat.reduceAdd, Nat.zero_add, List.range, List.range.loop])
    ((with_reducible refine gi_value (v := ?_) (o := ?_) ?_ ?_ ?_ (fun _ _ => ?_) (fun _ _ => ?_) ?_); rotate_left 2; (focus exact rfl); (focus exact rfl); (focus k_ne); (focus (go_simp; (try simp only [a1, b1, b2, c1, w1, q3, q4, q5, q6]); (try w_num); first | done | exact rfl)); (focus (simp [go_sem, *]; done)); walk_nrm)
    ((with_reducible refine gi_value (v := ?_) (o := ?_) ?_ ?_ ?_ (fun _ _ => ?_) (fun _ _ => ?_) ?_); rotate_left 2; (focus exact rfl); (focus exact rfl); (focus k_ne); (focus (go_simp; (try simp only [a1, b1, b2, c1, w1, q3, q4, q5, q6]); (try w_num); first | done | exact rfl)); (focus (simp [go_sem, *]; done)); walk_nrm)
    ((with_reducible refine gi_value (v := ?_) (o := ?_) ?_ ?_ ?_ (fun _ _ => ?_) (fun _ _ => ?_) ?_); rotate_left 2; (focus exact rfl); (focus exact rfl); (focus k_ne); (focus (go_simp; (try simp only [a1, b1, b2, c1, w1, q3, q4, q5, q6]); (try w_num); first | done | exact rfl)); (focus (simp [go_sem, *]; done)); walk_nrm)
    ((with_reducible refine gi_value (v := ?_) (o := ?_) ?_ ?_ ?_ (fun _ _ => ?_) (fun _ _ => ?_) ?_); rotate_left 2; (focus exact rfl); (focus exact rfl); (focus k_ne); (focus (go_simp; (try simp only [a1, b1, b2, c1, w1, q3, q4, q5, q6]); (try w_num); first | done | exact rfl)); (focus (simp [go_sem, *]; done)); walk_nrm)
    ((with_reducible refine gi_value (v := ?_) (o := ?_) ?_ ?_ ?_ (fun _ _ => ?_) (fun _ _ => ?_) ?_); rotate_left 2; (focus exact rfl); (focus exact rfl); (focus k_ne); (focus (go_simp; (try simp only [a1, b1, b2, c1, w1, q3, q4, q5, q6]); (try w_num); first | done | exact rfl)); (focus (simp [go_sem, *]; done)); walk_nrm)
    refine GoD.halt fun w₁ h₁ => ?_
    clear h₁
    refine ⟨rfl, fun v' hv' hw => ⟨fun e => ?_, fun e => ?_⟩⟩
    · subst e
      rw [hSS] at hw ⊢
      refine ⟨_, (stepG_cas_hit (v := SS) (n := SS + 1) rfl rfl (by k_ne) rfl H.f_casU64 (x_casU64_n L) (x_casU64_b L) (x_casU64_x L) .u64 (x_casU64_f L) rfl rfl rfl hw.cellSt (hw.thaw 0)).trans (by rfl), 80, ?_⟩
      clear hw w₁
      walk_nrm
      ((with_reducible refine gi_value (v := ?_) (o := ?_) ?_ ?_ ?_ (fun _ _ => ?_) (fun _ _ => ?_) ?_); rotate_left 2; (focus exact rfl); (focus exact rfl); (focus k_ne); (focus (go_simp; (try w_num); first | done | exact rfl)); (focus (simp [go_sem, *]; done)); walk_nrm)
      (with_reducible apply gi_regend)
      (with_reducible apply gi_ret)
      (refine gi_leave1 rfl rfl H.f_uCas rfl ?_; walk_nrm)
      (with_reducible apply gi_regend)
      ((with_reducible apply gi_cod (t := true)); (focus first | rfl | (simp [Act.eval]; done) | (simp [Act.eval]; omega)); simp only [if_true, if_false, Bool.false_eq_true, ↓reduceIte])
      (with_reducible apply gi_seq)
      (with_reducible apply gi_seq)
      ((with_reducible apply gi_region); simp only [List.size_toArray, List.length_cons, List.length_nil, Nat.reduceAdd, Nat.zero_add, List.range, List.range.loop])
      ((with_reducible refine gi_value (v := ?_) (o := ?_) ?_ ?_ ?_ (fun _ _ => ?_) (fun _ _ => ?_) ?_); rotate_left 2; (focus exact rfl); (focus exact rfl); (focus k_ne); (focus (go_simp; (try w_num); first | done | exact rfl)); (focus (simp [go_sem, *]; done)); walk_nrm)
      ((with_reducible refine gi_value (v := ?_) (o := ?_) ?_ ?_ ?_ (fun _ _ => ?_) (fun _ _ => ?_) ?_); rotate_left 2; (focus exact rfl); (focus exact rfl); (focus k_ne); (focus (go_simp; (try w_num); first | done | exact rfl)); (focus (simp [go_sem, *]; done)); walk_nrm)
      ((with_reducible refine gi_value (v := ?_) (o := ?_) ?_ ?_ ?_ (fun _ _ => ?_) (fun _ _ => ?_) ?_); rotate_left 2; (focus exact rfl); (focus exact rfl); (focus k_ne); (focus (go_simp; (try w_num); first | done | exact rfl)); (focus (simp [go_sem, *]; done)); walk_nrm)
      ((with_reducible refine gi_value (v := ?_) (o := ?_) ?_ ?_ ?_ (fun _ _ => ?_) (fun _ _ => ?_) ?_); rotate_left 2; (focus exact rfl); (focus exact rfl); (focus k_ne); (focus (go_simp; (try w_num); first | done | exact rfl)); (focus (simp [go_sem, *]; done)); walk_nrm)
      (with_reducible apply gi_regend)
      ((with_reducible apply gi_cod (t := true)); (focus first | rfl | (simp [Act.eval]; done) | (simp [Act.eval]; omega)); simp only [if_true, if_false, Bool.false_eq_true, ↓reduceIte])
      ((with_reducible apply gi_region); simp only [List.size_toArray, List.length_cons, List.length_nil, Nat.reduceAdd, Nat.zero_add, List.range, List.range.loop])
      ((with_reducible refine gi_value (v := ?_) (o := ?_) ?_ ?_ ?_ (fun _ _ => ?_) (fun _ _ => ?_) ?_); rotate_left 2; (focus exact rfl); (focus exact rfl); (focus k_ne); (focus (go_simp; (try w_num); first | done | exact rfl)); (focus (simp [go_sem, *]; done)); walk_nrm)
      ((with_reducible refine gi_value (v := ?_) (o := ?_) ?_ ?_ ?_ (fun _ _ => ?_) (fun _ _ => ?_) ?_); rotate_left 2; (focus exact rfl); (focus exact rfl); (focus k_ne); (focus (go_simp; (try w_num); first | done | exact rfl)); (focus (simp [go_sem, *]; done)); walk_nrm)
      ((with_reducible refine gi_value (v := ?_) (o := ?_) ?_ ?_ ?_ (fun _ _ => ?_) (fun _ _ => ?_) ?_); rotate_left 2; (focus exact rfl); (focus exact rfl); (focus k_ne); (focus (go_simp; (try w_num); first | done | exact rfl)); (focus (simp [go_sem, *]; done)); walk_nrm)
      (refine gi_conv H.underlying_tPU32 H.underlying_tUP H.room_tU32 (fun w hw => (wg_cell1 (hI hw))) rfl rfl (by k_ne) rfl rfl ?_; walk_nrm)
      refine GoD.halt fun w₁ h₁ => ?_
      clear h₁
      refine ⟨rfl, _, stepG_markAt .write (by simp) rfl rfl (by k_ne) rfl H.f_raceWrite (x_raceWrite_n L) (x_raceWrite_b L) (x_raceWrite_x L) (x_raceWrite_f L) (ad := ⟨_, 1, none⟩) (by simp [Act.eval] <;> rfl), 60, ?_⟩
      clear w₁
      walk_nrm
      (with_reducible apply gi_regend)
      (with_reducible apply gi_seq)
      ((with_reducible apply gi_region); simp only [List.size_toArray, List.length_cons, List.length_nil, Nat.reduceAdd, Nat.zero_add, List.range, List.range.loop])
      ((with_reducible refine gi_value (v := ?_) (o := ?_) ?_ ?_ ?_ (fun _ _ => ?_) (fun _ _ => ?_) ?_); rotate_left 2; (focus exact rfl); (focus exact rfl); (focus k_ne); (focus (go_simp; (try w_num); first | done | exact rfl)); (focus (simp [go_sem, *]; done)); walk_nrm)
      (with_reducible apply gi_regend)
      (with_reducible apply gi_seq)
      (with_reducible apply gi_seq)
      ((with_reducible apply gi_region); simp only [List.size_toArray, List.length_cons, List.length_nil, Nat.reduceAdd, Nat.zero_add, List.range, List.range.loop])
      ((with_reducible refine gi_value (v := ?_) (o := ?_) ?_ ?_ ?_ (fun _ _ => ?_) (fun _ _ => ?_) ?_); rotate_left 2; (focus exact rfl); (focus exact rfl); (focus k_ne); (focus (go_simp; (try w_num); first | done | exact rfl)); (focus (simp [go_sem, *]; done)); walk_nrm)
      ((with_reducible refine gi_value (v := ?_) (o := ?_) ?_ ?_ ?_ (fun _ _ => ?_) (fun _ _ => ?_) ?_); rotate_left 2; (focus exact rfl); (focus exact rfl); (focus k_ne); (focus (go_simp; (try w_num); first | done | exact rfl)); (focus (simp [go_sem, *]; done)); walk_nrm)
      ((with_reducible refine gi_value (v := ?_) (o := ?_) ?_ ?_ ?_ (fun _ _ => ?_) (fun _ _ => ?_) ?_); rotate_left 2; (focus exact rfl); (focus exact rfl); (focus k_ne); (focus (go_simp; (try w_num); first | done | exact rfl)); (focus (simp [go_sem, *]; done)); walk_nrm)
      ((with_reducible refine gi_value (v := ?_) (o := ?_) ?_ ?_ ?_ (fun _ _ => ?_) (fun _ _ => ?_) ?_); rotate_left 2; (focus exact rfl); (focus exact rfl); (focus k_ne); (focus (go_simp; (try w_num); first | done | exact rfl)); (focus (simp [go_sem, *]; done)); walk_nrm)
      ((with_reducible refine gi_unwanted (o := ?_) ?_ ?_ ?_); rotate_left; (focus exact rfl); (focus exact rfl); walk_nrm)
      ((with_reducible refine gi_value (v := ?_) (o := ?_) ?_ ?_ ?_ (fun _ _ => ?_) (fun _ _ => ?_) ?_); rotate_left 2; (focus exact rfl); (focus exact rfl); (focus k_ne); (focus (go_simp; (try w_num); first | done | exact rfl)); (focus (simp [go_sem, *]; done)); walk_nrm)
      (with_reducible apply gi_regend)
      ((with_reducible apply gi_cod (t := false)); (focus first | rfl | (simp [Act.eval]; done) | (simp [Act.eval]; omega)); simp only [if_true, if_false, Bool.false_eq_true, ↓reduceIte])
      (with_reducible apply gi_codeskip)
      (with_reducible apply gi_seq)
      ((with_reducible apply gi_region); simp only [List.size_toArray, List.length_cons, List.length_nil, Nat.reduceAdd, Nat.zero_add, List.range, List.range.loop])
      ((with_reducible refine gi_value (v := ?_) (o := ?_) ?_ ?_ ?_ (fun _ _ => ?_) (fun _ _ => ?_) ?_); rotate_left 2; (focus exact rfl); (focus exact rfl); (focus k_ne); (focus (go_simp; (try w_num); first | done | exact rfl)); (focus (simp [go_sem, *]; done)); walk_nrm)
      ((with_reducible refine gi_value (v := ?_) (o := ?_) ?_ ?_ ?_ (fun _ _ => ?_) (fun _ _ => ?_) ?_); rotate_left 2; (focus exact rfl); (focus exact rfl); (focus k_ne); (focus (go_simp; (try w_num); first | done | exact rfl)); (focus (simp [go_sem, *]; done)); walk_nrm)
      ((with_reducible refine gi_value (v := ?_) (o := ?_) ?_ ?_ ?_ (fun _ _ => ?_) (fun _ _ => ?_) ?_); rotate_left 2; (focus exact rfl); (focus exact rfl); (focus k_ne); (focus (go_simp; (try w_num); first | done | exact rfl)); (focus (simp [go_sem, *]; done)); walk_nrm)
      ((with_reducible refine gi_value (v := ?_) (o := ?_) ?_ ?_ ?_ (fun _ _ => ?_) (fun _ _ => ?_) ?_); rotate_left 2; (focus exact rfl); (focus exact rfl); (focus k_ne); (focus (go_simp; (try w_num); first | done | exact rfl)); (focus (simp [go_sem, *]; done)); walk_nrm)
      refine GoD.halt fun w₁ h₁ => ?_
      clear h₁
      refine ⟨rfl, rfl, fun ⟨st, hw⟩ => stepG_semacquire_wait rfl rfl rfl H.f_semacquire (x_semacquire_n L) (x_semacquire_b L) (x_semacquire_x L) (x_semacquire_f L) (by simp [Act.eval, smA]) hw.cellSm, fun hf => ?_⟩
      refine ⟨_, (stepG_semacquire (n := 1) rfl rfl (by k_ne) rfl H.f_semacquire (x_semacquire_n L) (x_semacquire_b L) (x_semacquire_x L) (x_semacquire_f L) (by simp [Act.eval, smA]) hf.cellSm (by k_ne) (hf.thaw 1)).trans (by rfl), 40, ?_⟩
      clear hf w₁
      walk_nrm
      (with_reducible apply gi_regend)
      (with_reducible apply gi_seq)
      ((with_reducible apply gi_region); simp only [List.size_toArray, List.length_cons, List.length_nil, Nat.reduceAdd, Nat.zero_add, List.range, List.range.loop])
      ((with_reducible refine gi_value (v := ?_) (o := ?_) ?_ ?_ ?_ (fun _ _ => ?_) (fun _ _ => ?_) ?_); rotate_left 2; (focus exact rfl); (focus exact rfl); (focus k_ne); (focus (go_simp; (try w_num); first | done | exact rfl)); (focus (simp [go_sem, *]; done)); walk_nrm)
      ((with_reducible refine gi_value (v := ?_) (o := ?_) ?_ ?_ ?_ (fun _ _ => ?_) (fun _ _ => ?_) ?_); rotate_left 2; (focus exact rfl); (focus exact rfl); (focus k_ne); (focus (go_simp; (try w_num); first | done | exact rfl)); (focus (simp [go_sem, *]; done)); walk_nrm)
      ((with_reducible refine gi_value (v := ?_) (o := ?_) ?_ ?_ ?_ (fun _ _ => ?_) (fun _ _ => ?_) ?_); rotate_left 2; (focus exact rfl); (focus exact rfl); (focus k_ne); (focus (go_simp; (try w_num); first | done | exact rfl)); (focus (simp [go_sem, *]; done)); walk_nrm)
      (refine gi_call rfl rfl (by k_ne) rfl H.f_uLoad (nm_uLoad L) rfl ?_; walk_nrmf uLoadFn)
      (with_reducible apply gi_seq)
      ((with_reducible apply gi_region); simp only [List.size_toArray, List.length_cons, List.length_nil, Nat.reduceAdd, Nat.zero_add, List.range, List.range.loop])
      ((with_reducible refine gi_value (v := ?_) (o := ?_) ?_ ?_ ?_ (fun _ _ => ?_) (fun _ _ => ?_) ?_); rotate_left 2; (focus exact rfl); (focus exact rfl); (focus k_ne); (focus (go_simp; (try w_num); first | done | exact rfl)); (focus (simp [go_sem, *]; done)); walk_nrm)
      (with_reducible apply gi_regend)
      (with_reducible apply gi_seq)
      ((with_reducible apply gi_region); simp only [List.size_toArray, List.length_cons, List.length_nil, Nat.reduceAdd, Nat.zero_add, List.range, List.range.loop])
      ((with_reducible refine gi_value (v := ?_) (o := ?_) ?_ ?_ ?_ (fun _ _ => ?_) (fun _ _ => ?_) ?_); rotate_left 2; (focus exact rfl); (focus exact rfl); (focus k_ne); (focus (go_simp; (try w_num); first | done | exact rfl)); (focus (simp [go_sem, *]; done)); walk_nrm)
      ((with_reducible refine gi_value (v := ?_) (o := ?_) ?_ ?_ ?_ (fun _ _ => ?_) (fun _ _ => ?_) ?_); rotate_left 2; (focus exact rfl); (focus exact rfl); (focus k_ne); (focus (go_simp; (try w_num); first | done | exact rfl)); (focus (simp [go_sem, *]; done)); walk_nrm)
      ((with_reducible refine gi_value (v := ?_) (o := ?_) ?_ ?_ ?_ (fun _ _ => ?_) (fun _ _ => ?_) ?_); rotate_left 2; (focus exact rfl); (focus exact rfl); (focus k_ne); (focus (go_simp; (try w_num); first | done | exact rfl)); (focus (simp [go_sem, *]; done)); walk_nrm)
      refine GoD.halt fun w₁ h₁ => ?_
      clear h₁
      refine ⟨rfl, fun hw => ⟨_, stepG_load_atomic (v := 0) rfl rfl (by k_ne) rfl H.f_loadU64 (x_loadU64_n L) (x_loadU64_b L) (x_loadU64_x L) .u64 (x_loadU64_f L) rfl hw.cellSt, 40, ?_⟩⟩
      clear hw w₁
      walk_nrm
      ((with_reducible refine gi_value (v := ?_) (o := ?_) ?_ ?_ ?_ (fun _ _ => ?_) (fun _ _ => ?_) ?_); rotate_left 2; (focus exact rfl); (focus exact rfl); (focus k_ne); (focus (go_simp; (try w_num); first | done | exact rfl)); (focus (simp [go_sem, *]; done)); walk_nrm)
      (with_reducible apply gi_regend)
      (with_reducible apply gi_ret)
      (refine gi_leave1 rfl rfl H.f_uLoad rfl ?_; walk_nrm)
      ((with_reducible refine gi_value (v := ?_) (o := ?_) ?_ ?_ ?_ (fun _ _ => ?_) (fun _ _ => ?_) ?_); rotate_left 2; (focus exact rfl); (focus exact rfl); (focus k_ne); (focus (go_simp; (try w_num); first | done | exact rfl)); (focus (simp [go_sem, *]; done)); walk_nrm)
      ((with_reducible refine gi_value (v := ?_) (o := ?_) ?_ ?_ ?_ (fun _ _ => ?_) (fun _ _ => ?_) ?_); rotate_left 2; (focus exact rfl); (focus exact rfl); (focus k_ne); (focus (go_simp; (try w_num); first | done | exact rfl)); (focus (simp [go_sem, *]; done)); walk_nrm)
      (with_reducible apply gi_regend)
      (with_reducible apply gi_seq)
      ((with_reducible apply gi_cod (t := true)); (focus first | rfl | (simp [Act.eval]; done) | (simp [Act.eval]; omega)); simp only [if_true, if_false, Bool.false_eq_true, ↓reduceIte])
      (with_reducible apply gi_seq)
      ((with_reducible apply gi_region); simp only [List.size_toArray, List.length_cons, List.length_nil, Nat.reduceAdd, Nat.zero_add, List.range, List.range.loop])
      refine GoD.halt fun w₁ h₁ => ?_
      clear h₁
      refine ⟨rfl, _, stepG_mark0 .enable (by simp) rfl rfl (by k_ne) rfl H.f_enable (x_enable_n L) (x_enable_b L) (x_enable_x L) (x_enable_f L), 12, ?_⟩
      clear w₁
      walk_nrm
      (with_reducible apply gi_regend)
      ((with_reducible apply gi_region); simp only [List.size_toArray, List.length_cons, List.length_nil, Nat.reduceAdd, Nat.zero_add, List.range, List.range.loop])
      ((with_reducible refine gi_value (v := ?_) (o := ?_) ?_ ?_ ?_ (fun _ _ => ?_) (fun _ _ => ?_) ?_); rotate_left 2; (focus exact rfl); (focus exact rfl); (focus k_ne); (focus (go_simp; (try w_num); first | done | exact rfl)); (focus (simp [go_sem, *]; done)); walk_nrm)
      (refine gi_conv H.underlying_tWgP H.underlying_tUP H.room_tWg (fun w hw => (wg_cell0 (hI hw))) rfl rfl (by k_ne) rfl rfl ?_; walk_nrm)
      refine GoD.halt fun w₁ h₁ => ?_
      clear h₁
      refine ⟨rfl, _, stepG_markAt .acquire (by simp) rfl rfl (by k_ne) rfl H.f_acquire (x_acquire_n L) (x_acquire_b L) (x_acquire_x L) (x_acquire_f L) (by simp [Act.eval, stA]), ⟨30, ?_⟩⟩
      clear w₁
      walk_nrm
      (with_reducible apply gi_regend)
      (with_reducible apply gi_seq)
      (with_reducible apply gi_seq)
      ((with_reducible apply gi_region); simp only [List.size_toArray, List.length_cons, List.length_nil, Nat.reduceAdd, Nat.zero_add, List.range, List.range.loop])
      ((with_reducible refine gi_value (v := ?_) (o := ?_) ?_ ?_ ?_ (fun _ _ => ?_) (fun _ _ => ?_) ?_); rotate_left 2; (focus exact rfl); (focus exact rfl); (focus k_ne); (focus (go_simp; (try w_num); first | done | exact rfl)); (focus (simp [go_sem, *]; done)); walk_nrm)
      (with_reducible apply gi_regend)
      ((with_reducible apply gi_cod (t := false)); (focus first | rfl | (simp [Act.eval]; done) | (simp [Act.eval]; omega)); simp only [if_true, if_false, Bool.false_eq_true, ↓reduceIte])
      (with_reducible apply gi_codeskip)
      (with_reducible apply gi_ret)
      (refine gi_leave0 rfl rfl H.f_wait rfl ?_; walk_nrm)
      exact GoD.halt fun w₁ h₁ => hS _ _ rfl
    · refine ⟨_, stepG_cas_miss (v := (v' : Int) * KK) (old := SS) (n := SS + 1) rfl rfl (by k_ne) rfl H.f_casU64 (x_casU64_n L) (x_casU64_b L) (x_casU64_x L) .u64 (x_casU64_f L) rfl rfl rfl hw.cellSt (hw.thaw 0) (by rw [← hSS]; simp only [KK]; omega), 30, ?_⟩
      clear hw w₁
      walk_nrm
      ((with_reducible refine gi_value (v := ?_) (o := ?_) ?_ ?_ ?_ (fun _ _ => ?_) (fun _ _ => ?_) ?_); rotate_left 2; (focus exact rfl); (focus exact rfl); (focus k_ne); (focus (go_simp; (try w_num); first | done | exact rfl)); (focus (simp [go_sem, *]; done)); walk_nrm)
      (with_reducible apply gi_regend)
      (with_reducible apply gi_ret)
      (refine gi_leave1 rfl rfl H.f_uCas rfl ?_; walk_nrm)
      (with_reducible apply gi_regend)
      ((with_reducible apply gi_cod (t := false)); (focus first | rfl | (simp [Act.eval]; done) | (simp [Act.eval]; omega)); simp only [if_true, if_false, Bool.false_eq_true, ↓reduceIte])
      (with_reducible apply gi_codeskip)
      (with_reducible apply gi_inBlock)
      apply gi_inLoop
      refine GoD.halt fun w₁ h₁ => ?_
      exact ⟨_, rfl, by simp, by simp⟩
theorem wait_start (H : WgLib P L) {b₀ : Frame} {a₀ : Act} {ops₀ : Array Oper} {i₀ : Nat} {rest₀ : List Nat} {k₀ : List Item} {cs : List Frame} :
    GoI P true I (Q3 P I (mk .disable) (fun g _ => WHead L Wg (b₀.at a₀ (.inRegion ops₀ (i₀ :: rest₀) :: k₀)) cs g)) 10 (G ((base L.wait).at ⟨#[.pointer (some ⟨Wg, 0, none⟩), undef, undef, undef, undef, undef, undef, undef, undef, undef, undef, undef, undef, undef, undef, undef, undef, undef, undef, undef, undef, undef, undef, undef, undef, undef, undef, undef, undef, undef, undef, undef, undef, undef, undef, undef, undef, undef, undef, undef, undef, undef, undef, undef, undef, undef, undef, undef, undef, undef, undef, undef, undef, undef, undef, undef, undef, undef, undef, undef, undef, undef, undef, undef, undef, undef, undef, undef, undef, undef, undef, undef, undef, undef, undef, undef, undef, undef, undef, undef, undef, undef, undef, undef], []⟩ [.code (body_wait L)]) (b₀.at a₀ (.inRegion ops₀ (i₀ :: rest₀) :: k₀) :: cs)) := by
  lib_facts
  simp only [body_wait, waitFn, Option.getD_some]
  (with_reducible apply gi_seq)
  ((with_reducible apply gi_cod (t := true)); (focus first | rfl | (simp [Act.eval]; done) | (simp [Act.eval]; omega)); simp only [if_true, if_false, Bool.false_eq_true, ↓reduceIte])
  ((with_reducible apply gi_region); simp only [List.size_toArray, List.length_cons, List.length_nil, Nat.reduceAdd, Nat.zero_add, List.range, List.range.loop])
  refine GoD.halt fun w₁ h₁ => ?_
  clear h₁
  refine ⟨rfl, _, stepG_mark0 .disable (by simp) rfl rfl (by k_ne) rfl H.f_disable (x_disable_n L) (x_disable_b L) (x_disable_x L) (x_disable_f L), 3, ?_⟩
  clear w₁
  walk_nrm
  apply gi_regend
  apply gi_block
  apply gi_loop
  exact GoD.halt fun w₂ h₂ => ⟨_, rfl, by simp, by simp⟩
end
end Go.Proofs.Ytgfgoflhmikalaa.par
