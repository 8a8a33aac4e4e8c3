/- Part 18 of what the proofs stand on: lemmas on worlds, on goroutines, contracts of functions. No conditions. -/
import Derived.Test.YtgfgoflhmikalaaM17
namespace Go.Proofs.Ytgfgoflhmikalaa.par
open Go Go.Conc Go.RowKit Go.Conc.Lib Go.ConcR.Gen Go.ConcN.Gen
open Go.ConcR (stA smA WgAt KK rd wr mk DC0)
open Go.ConcN (st_flag st_waiters)
set_option linter.unusedVariables false
set_option linter.unusedSimpArgs false
set_option maxRecDepth 100000
section
variable {L : WgLink} {P : Program} {I : World → Prop} {Wg : Nat}
/-- At 'enable'; at the library's word that it reads; at the atomic add; at 'disable'. -/
def Q3 (P : Program) (I : World → Prop) (e : Event) (S : Goroutine → World → Prop) (g : Goroutine) (w : World) : Prop :=
  g.status = .running ∧ ∃ g', stepG P true g w = .go g' w #[e] ∧ ∃ m, GoI P true I S m g'
def Q1 (P : Program) (I : World → Prop) (tW : TypeId) (Wg : Nat) (S : Goroutine → World → Prop) (g : Goroutine) (w : World) : Prop :=
  g.status = .running ∧ ∀ v : Nat, v < 2147483647 → WgAt tW Wg w (v * KK) 0 →
    ∃ g', stepG P true g w = .go g' (w.setCell (stA Wg) (.int .u64 ((v + 1) * KK))) #[rd (stA Wg), wr (stA Wg)] ∧
      ∃ m, GoI P true I (fun g w => Q3 P I (mk .enable) S g w ∨ Q3 P I (mk (.read (smA Wg))) (Q3 P I (mk .enable) S) g w) m g'
set_option maxHeartbeats 4000000 in
theorem add_one (H : WgLib P L) (hI : ∀ {w : World}, I w → ∃ st sm, WgAt L.tWg Wg w st sm) {b₀ : Frame} {a₀ : Act} {ops₀ : Array Oper} {i₀ : Nat} {rest₀ : List Nat} {k₀ : List Item} {cs : List Frame} :
    GoI P true I (Q3 P I (mk .disable) (Q1 P I L.tWg Wg (fun g _ => g = G (b₀.at (a₀.put ((ops₀[i₀]?).bind (·.dst)) (.tuple #[])) (.inRegion ops₀ rest₀ :: k₀)) cs))) 20 (G ((base L.add).at ⟨#[.pointer (some ⟨Wg, 0, none⟩), .int .i64 1, undef, undef, undef, undef, undef, undef, undef, undef, undef, undef, undef, undef, undef, undef, undef, undef, undef, undef, undef, undef, undef, undef, undef, undef, undef, undef, undef, undef, undef, undef, undef, undef, undef, undef, undef, undef, undef, undef, undef, undef, undef, undef, undef, undef, undef, undef, undef, undef, undef, undef, undef, undef, undef, undef, undef, undef, undef, undef, undef, undef, undef, undef, undef, undef, undef, undef, undef, undef, undef, undef, undef, undef, undef, undef, undef, undef, undef, undef, undef, undef, undef, undef, undef, undef, undef, undef, undef, undef, undef, undef, undef, undef, undef, undef, undef, undef, undef, undef, undef, undef, undef, undef, undef, undef, undef, undef, undef, undef, undef, undef, undef, undef, undef, undef, undef], []⟩ [.code (body_add L)]) (b₀.at a₀ (.inRegion ops₀ (i₀ :: rest₀) :: k₀) :: cs)) := by
  lib_facts
  simp only [body_add, addFn, Option.getD_some]
  (with_reducible apply gi_seq)
  ((with_reducible apply gi_cod (t := true)); (focus first | rfl | (simp [Act.eval]; done) | (simp [Act.eval]; omega)); simp only [if_true, if_false, Bool.false_eq_true, ↓reduceIte])
  (with_reducible apply gi_seq)
  (with_reducible apply gi_seq)
  ((with_reducible apply gi_region); simp only [List.size_toArray, List.length_cons, List.length_nil, Nat.reduceAdd, Nat.zero_add, List.range, List.range.loop])
  ((with_reducible refine gi_value (v := ?_) (o := ?_) ?_ ?_ ?_ (fun _ _ => ?_) (fun _ _ => ?_) ?_); rotate_left 2; (focus exact rfl); (focus exact rfl); (focus k_ne); (focus (go_simp; (try w_num); first | done | exact rfl)); (focus (simp [go_sem, *]; done)); walk_nrm)
  ((with_reducible refine gi_value (v := ?_) (o := ?_) ?_ ?_ ?_ (fun _ _ => ?_) (fun _ _ => ?_) ?_); rotate_left 2; (focus exact rfl); (focus exact rfl); (focus k_ne); (focus (go_simp; (try w_num); first | done | exact rfl)); (focus (simp [go_sem, *]; done)); walk_nrm)
  (with_reducible apply gi_regend)
  ((with_reducible apply gi_cod (t := false)); (focus first | rfl | (simp [Act.eval]; done) | (simp [Act.eval]; omega)); simp only [if_true, if_false, Bool.false_eq_true, ↓reduceIte])
  (with_reducible apply gi_codeskip)
  (with_reducible apply gi_seq)
  ((with_reducible apply gi_region); simp only [List.size_toArray, List.length_cons, List.length_nil, Nat.reduceAdd, Nat.zero_add, List.range, List.range.loop])
  refine GoD.halt fun w₁ h₁ => ?_
  clear h₁
  refine ⟨rfl, _, stepG_mark0 .disable (by simp) rfl rfl (by k_ne) rfl H.f_disable (x_disable_n L) (x_disable_b L) (x_disable_x L) (x_disable_f L), 50, ?_⟩
  clear w₁
  walk_nrm
  (with_reducible apply gi_regend)
  ((with_reducible apply gi_region); simp only [List.size_toArray, List.length_cons, List.length_nil, Nat.reduceAdd, Nat.zero_add, List.range, List.range.loop])
  (refine gi_defer rfl rfl (by k_ne) rfl ?_; walk_nrm)
  (with_reducible apply gi_regend)
  (with_reducible apply gi_seq)
  ((with_reducible apply gi_region); simp only [List.size_toArray, List.length_cons, List.length_nil, Nat.reduceAdd, Nat.zero_add, List.range, List.range.loop])
  ((with_reducible refine gi_value (v := ?_) (o := ?_) ?_ ?_ ?_ (fun _ _ => ?_) (fun _ _ => ?_) ?_); rotate_left 2; (focus exact rfl); (focus exact rfl); (focus k_ne); (focus (go_simp; (try w_num); first | done | exact rfl)); (focus (simp [go_sem, *]; done)); walk_nrm)
  (with_reducible apply gi_regend)
  (with_reducible apply gi_seq)
  (with_reducible apply gi_seq)
  ((with_reducible apply gi_region); simp only [List.size_toArray, List.length_cons, List.length_nil, Nat.reduceAdd, Nat.zero_add, List.range, List.range.loop])
  (refine gi_pure (.bool false) rfl rfl (by k_ne) rfl H.f_inBubble (x_inBubble_n L) (x_inBubble_b L) (x_inBubble_x L) (x_inBubble_f L) ?_; walk_nrm)
  (with_reducible apply gi_regend)
  ((with_reducible apply gi_cod (t := false)); (focus first | rfl | (simp [Act.eval]; done) | (simp [Act.eval]; omega)); simp only [if_true, if_false, Bool.false_eq_true, ↓reduceIte])
  (with_reducible apply gi_codeskip)
  (with_reducible apply gi_seq)
  ((with_reducible apply gi_region); simp only [List.size_toArray, List.length_cons, List.length_nil, Nat.reduceAdd, Nat.zero_add, List.range, List.range.loop])
  ((with_reducible refine gi_value (v := ?_) (o := ?_) ?_ ?_ ?_ (fun _ _ => ?_) (fun _ _ => ?_) ?_); rotate_left 2; (focus exact rfl); (focus exact rfl); (focus k_ne); (focus (go_simp; (try w_num); first | done | exact rfl)); (focus (simp [go_sem, *]; done)); walk_nrm)
  ((with_reducible refine gi_value (v := ?_) (o := ?_) ?_ ?_ ?_ (fun _ _ => ?_) (fun _ _ => ?_) ?_); rotate_left 2; (focus exact rfl); (focus exact rfl); (focus k_ne); (focus (go_simp; (try w_num); first | done | exact rfl)); (focus (simp [go_sem, *]; done)); walk_nrm)
  ((with_reducible refine gi_value (v := ?_) (o := ?_) ?_ ?_ ?_ (fun _ _ => ?_) (fun _ _ => ?_) ?_); rotate_left 2; (focus exact rfl); (focus exact rfl); (focus k_ne); (focus (go_simp; (try w_num); first | done | exact rfl)); (focus (simp [go_sem, *]; done)); walk_nrm)
  ((with_reducible refine gi_value (v := ?_) (o := ?_) ?_ ?_ ?_ (fun _ _ => ?_) (fun _ _ => ?_) ?_); rotate_left 2; (focus exact rfl); (focus exact rfl); (focus k_ne); (focus (go_simp; (try w_num); first | done | exact rfl)); (focus (simp [go_sem, *]; done)); walk_nrm)
  ((with_reducible refine gi_value (v := ?_) (o := ?_) ?_ ?_ ?_ (fun _ _ => ?_) (fun _ _ => ?_) ?_); rotate_left 2; (focus exact rfl); (focus exact rfl); (focus k_ne); (focus (go_simp; (try w_num); first | done | exact rfl)); (focus (simp [go_sem, *]; done)); walk_nrm)
  ((with_reducible refine gi_value (v := ?_) (o := ?_) ?_ ?_ ?_ (fun _ _ => ?_) (fun _ _ => ?_) ?_); rotate_left 2; (focus exact rfl); (focus exact rfl); (focus k_ne); (focus (go_simp; (try w_num); first | done | exact rfl)); (focus (simp [go_sem, *]; done)); walk_nrm)
  (refine gi_call rfl rfl (by k_ne) rfl H.f_uAdd (nm_uAdd L) rfl ?_; walk_nrmf uAddFn)
  (with_reducible apply gi_seq)
  ((with_reducible apply gi_region); simp only [List.size_toArray, List.length_cons, List.length_nil, Nat.reduceAdd, Nat.zero_add, List.range, List.range.loop])
  ((with_reducible refine gi_value (v := ?_) (o := ?_) ?_ ?_ ?_ (fun _ _ => ?_) (fun _ _ => ?_) ?_); rotate_left 2; (focus exact rfl); (focus exact rfl); (focus k_ne); (focus (go_simp; (try w_num); first | done | exact rfl)); (focus (simp [go_sem, *]; done)); walk_nrm)
  (with_reducible apply gi_regend)
  (with_reducible apply gi_seq)
  ((with_reducible apply gi_region); simp only [List.size_toArray, List.length_cons, List.length_nil, Nat.reduceAdd, Nat.zero_add, List.range, List.range.loop])
  ((with_reducible refine gi_value (v := ?_) (o := ?_) ?_ ?_ ?_ (fun _ _ => ?_) (fun _ _ => ?_) ?_); rotate_left 2; (focus exact rfl); (focus exact rfl); (focus k_ne); (focus (go_simp; (try w_num); first | done | exact rfl)); (focus (simp [go_sem, *]; done)); walk_nrm)
  ((with_reducible refine gi_value (v := ?_) (o := ?_) ?_ ?_ ?_ (fun _ _ => ?_) (fun _ _ => ?_) ?_); rotate_left 2; (focus exact rfl); (focus exact rfl); (focus k_ne); (focus (go_simp; (try w_num); first | done | exact rfl)); (focus (simp [go_sem, *]; done)); walk_nrm)
  ((with_reducible refine gi_value (v := ?_) (o := ?_) ?_ ?_ ?_ (fun _ _ => ?_) (fun _ _ => ?_) ?_); rotate_left 2; (focus exact rfl); (focus exact rfl); (focus k_ne); (focus (go_simp; (try w_num); first | done | exact rfl)); (focus (simp [go_sem, *]; done)); walk_nrm)
  ((with_reducible refine gi_value (v := ?_) (o := ?_) ?_ ?_ ?_ (fun _ _ => ?_) (fun _ _ => ?_) ?_); rotate_left 2; (focus exact rfl); (focus exact rfl); (focus k_ne); (focus (go_simp; (try w_num); first | done | exact rfl)); (focus (simp [go_sem, *]; done)); walk_nrm)
  refine GoD.halt fun w₁ h₁ => ?_
  clear h₁
  refine ⟨rfl, fun v hv hw => ?_⟩
  rcases Nat.eq_zero_or_pos v with rfl | hvp
  · replace hw : WgAt L.tWg Wg w₁ 0 0 := by simpa using hw
    have z : (((0 : Nat) : Int) + 1) * KK = KK := by simp
    rw [z]
    have e0 : IntKind.u64.wrap (0 + 4294967296) = KK := by decide
    refine ⟨_, (stepG_add_atomic rfl rfl (by k_ne) rfl H.f_addU64 (x_addU64_n L) (x_addU64_b L) (x_addU64_x L) .u64 (x_addU64_f L) rfl rfl hw.cellSt (hw.thaw 0)).trans (by rw [e0]; rfl), 120, ?_⟩
    clear hw z e0
    simp only [KK]
    walk_nrm
    ((with_reducible refine gi_value (v := ?_) (o := ?_) ?_ ?_ ?_ (fun _ _ => ?_) (fun _ _ => ?_) ?_); rotate_left 2; (focus exact rfl); (focus exact rfl); (focus k_ne); (focus (go_simp; (try w_num); first | done | exact rfl)); (focus (simp [go_sem, *]; done)); walk_nrm)
    (with_reducible apply gi_regend)
    (with_reducible apply gi_ret)
    (refine gi_leave1 rfl rfl H.f_uAdd rfl ?_; walk_nrm)
    ((with_reducible refine gi_value (v := ?_) (o := ?_) ?_ ?_ ?_ (fun _ _ => ?_) (fun _ _ => ?_) ?_); rotate_left 2; (focus exact rfl); (focus exact rfl); (focus k_ne); (focus (go_simp; (try w_num); first | done | exact rfl)); (focus (simp [go_sem, *]; done)); walk_nrm)
    (with_reducible apply gi_regend)
    (with_reducible apply gi_seq)
    (with_reducible apply gi_seq)
    ((with_reducible apply gi_region); simp only [List.size_toArray, List.length_cons, List.length_nil, Nat.reduceAdd, Nat.zero_add, List.range, List.range.loop])
    ((with_reducible refine gi_value (v := ?_) (o := ?_) ?_ ?_ ?_ (fun _ _ => ?_) (fun _ _ => ?_) ?_); rotate_left 2; (focus exact rfl); (focus exact rfl); (focus k_ne); (focus (go_simp; (try w_num); first | done | exact rfl)); (focus (simp [go_sem, *]; done)); walk_nrm)
    ((with_reducible refine gi_value (v := ?_) (o := ?_) ?_ ?_ ?_ (fun _ _ => ?_) (fun _ _ => ?_) ?_); rotate_left 2; (focus exact rfl); (focus exact rfl); (focus k_ne); (focus (go_simp; (try w_num); first | done | exact rfl)); (focus (simp [go_sem, *]; done)); walk_nrm)
    ((with_reducible refine gi_value (v := ?_) (o := ?_) ?_ ?_ ?_ (fun _ _ => ?_) (fun _ _ => ?_) ?_); rotate_left 2; (focus exact rfl); (focus exact rfl); (focus k_ne); (focus (go_simp; (try w_num); first | done | exact rfl)); (focus (simp [go_sem, *]; done)); walk_nrm)
    ((with_reducible refine gi_value (v := ?_) (o := ?_) ?_ ?_ ?_ (fun _ _ => ?_) (fun _ _ => ?_) ?_); rotate_left 2; (focus exact rfl); (focus exact rfl); (focus k_ne); (focus (go_simp; (try w_num); first | done | exact rfl)); (focus (simp [go_sem, *]; done)); walk_nrm)
    ((with_reducible refine gi_unwanted (o := ?_) ?_ ?_ ?_); rotate_left; (focus exact rfl); (focus exact rfl); walk_nrm)
    ((with_reducible refine gi_unwanted (o := ?_) ?_ ?_ ?_); rotate_left; (focus exact rfl); (focus exact rfl); walk_nrm)
    ((with_reducible refine gi_value (v := ?_) (o := ?_) ?_ ?_ ?_ (fun _ _ => ?_) (fun _ _ => ?_) ?_); rotate_left 2; (focus exact rfl); (focus exact rfl); (focus k_ne); (focus (go_simp; (try w_num); first | done | exact rfl)); (focus (simp [go_sem, *]; done)); walk_nrm)
    (with_reducible apply gi_regend)
    ((with_reducible apply gi_cod (t := false)); (focus first | rfl | (simp [Act.eval]; done) | (simp [Act.eval]; omega)); simp only [if_true, if_false, Bool.false_eq_true, ↓reduceIte])
    (with_reducible apply gi_codeskip)
    (with_reducible apply gi_seq)
    ((with_reducible apply gi_region); simp only [List.size_toArray, List.length_cons, List.length_nil, Nat.reduceAdd, Nat.zero_add, List.range, List.range.loop])
    ((with_reducible refine gi_value (v := ?_) (o := ?_) ?_ ?_ ?_ (fun _ _ => ?_) (fun _ _ => ?_) ?_); rotate_left 2; (focus exact rfl); (focus exact rfl); (focus k_ne); (focus (go_simp; (try w_num); first | done | exact rfl)); (focus (simp [go_sem, *]; done)); walk_nrm)
    ((with_reducible refine gi_value (v := ?_) (o := ?_) ?_ ?_ ?_ (fun _ _ => ?_) (fun _ _ => ?_) ?_); rotate_left 2; (focus exact rfl); (focus exact rfl); (focus k_ne); (focus (go_simp; (try w_num); first | done | exact rfl)); (focus (simp [go_sem, *]; done)); walk_nrm)
    ((with_reducible refine gi_value (v := ?_) (o := ?_) ?_ ?_ ?_ (fun _ _ => ?_) (fun _ _ => ?_) ?_); rotate_left 2; (focus exact rfl); (focus exact rfl); (focus k_ne); (focus (go_simp; (try w_num); first | done | exact rfl)); (focus (simp [go_sem, *]; done)); walk_nrm)
    ((with_reducible refine gi_value (v := ?_) (o := ?_) ?_ ?_ ?_ (fun _ _ => ?_) (fun _ _ => ?_) ?_); rotate_left 2; (focus exact rfl); (focus exact rfl); (focus k_ne); (focus (go_simp; (try w_num); first | done | exact rfl)); (focus (simp [go_sem, *]; done)); walk_nrm)
    (with_reducible apply gi_regend)
    (with_reducible apply gi_seq)
    ((with_reducible apply gi_region); simp only [List.size_toArray, List.length_cons, List.length_nil, Nat.reduceAdd, Nat.zero_add, List.range, List.range.loop])
    ((with_reducible refine gi_value (v := ?_) (o := ?_) ?_ ?_ ?_ (fun _ _ => ?_) (fun _ _ => ?_) ?_); rotate_left 2; (focus exact rfl); (focus exact rfl); (focus k_ne); (focus (go_simp; (try w_num); first | done | exact rfl)); (focus (simp [go_sem, *]; done)); walk_nrm)
    ((with_reducible refine gi_value (v := ?_) (o := ?_) ?_ ?_ ?_ (fun _ _ => ?_) (fun _ _ => ?_) ?_); rotate_left 2; (focus exact rfl); (focus exact rfl); (focus k_ne); (focus (go_simp; (try w_num); first | done | exact rfl)); (focus (simp [go_sem, *]; done)); walk_nrm)
    ((with_reducible refine gi_value (v := ?_) (o := ?_) ?_ ?_ ?_ (fun _ _ => ?_) (fun _ _ => ?_) ?_); rotate_left 2; (focus exact rfl); (focus exact rfl); (focus k_ne); (focus (go_simp; (try w_num); first | done | exact rfl)); (focus (simp [go_sem, *]; done)); walk_nrm)
    ((with_reducible refine gi_value (v := ?_) (o := ?_) ?_ ?_ ?_ (fun _ _ => ?_) (fun _ _ => ?_) ?_); rotate_left 2; (focus exact rfl); (focus exact rfl); (focus k_ne); (focus (go_simp; (try w_num); first | done | exact rfl)); (focus (simp [go_sem, *]; done)); walk_nrm)
    (with_reducible apply gi_regend)
    (with_reducible apply gi_seq)
    (with_reducible apply gi_seq)
    ((with_reducible apply gi_region); simp only [List.size_toArray, List.length_cons, List.length_nil, Nat.reduceAdd, Nat.zero_add, List.range, List.range.loop])
    ((with_reducible refine gi_value (v := ?_) (o := ?_) ?_ ?_ ?_ (fun _ _ => ?_) (fun _ _ => ?_) ?_); rotate_left 2; (focus exact rfl); (focus exact rfl); (focus k_ne); (focus (go_simp; (try w_num); first | done | exact rfl)); (focus (simp [go_sem, *]; done)); walk_nrm)
    ((with_reducible refine gi_value (v := ?_) (o := ?_) ?_ ?_ ?_ (fun _ _ => ?_) (fun _ _ => ?_) ?_); rotate_left 2; (focus exact rfl); (focus exact rfl); (focus k_ne); (focus (go_simp; (try w_num); first | done | exact rfl)); (focus (simp [go_sem, *]; done)); walk_nrm)
    ((with_reducible refine gi_value (v := ?_) (o := ?_) ?_ ?_ ?_ (fun _ _ => ?_) (fun _ _ => ?_) ?_); rotate_left 2; (focus exact rfl); (focus exact rfl); (focus k_ne); (focus (go_simp; (try w_num); first | done | exact rfl)); (focus (simp [go_sem, *]; done)); walk_nrm)
    ((with_reducible refine gi_value (v := ?_) (o := ?_) ?_ ?_ ?_ (fun _ _ => ?_) (fun _ _ => ?_) ?_); rotate_left 2; (focus exact rfl); (focus exact rfl); (focus k_ne); (focus (go_simp; (try w_num); first | done | exact rfl)); (focus (simp [go_sem, *]; done)); walk_nrm)
    ((with_reducible refine gi_value (v := ?_) (o := ?_) ?_ ?_ ?_ (fun _ _ => ?_) (fun _ _ => ?_) ?_); rotate_left 2; (focus exact rfl); (focus exact rfl); (focus k_ne); (focus (go_simp; (try w_num); first | done | exact rfl)); (focus (simp [go_sem, *]; done)); walk_nrm)
    ((with_reducible refine gi_value (v := ?_) (o := ?_) ?_ ?_ ?_ (fun _ _ => ?_) (fun _ _ => ?_) ?_); rotate_left 2; (focus exact rfl); (focus exact rfl); (focus k_ne); (focus (go_simp; (try w_num); first | done | exact rfl)); (focus (simp [go_sem, *]; done)); walk_nrm)
    ((with_reducible refine gi_value (v := ?_) (o := ?_) ?_ ?_ ?_ (fun _ _ => ?_) (fun _ _ => ?_) ?_); rotate_left 2; (focus exact rfl); (focus exact rfl); (focus k_ne); (focus (go_simp; (try w_num); first | done | exact rfl)); (focus (simp [go_sem, *]; done)); walk_nrm)
    ((with_reducible refine gi_value (v := ?_) (o := ?_) ?_ ?_ ?_ (fun _ _ => ?_) (fun _ _ => ?_) ?_); rotate_left 2; (focus exact rfl); (focus exact rfl); (focus k_ne); (focus (go_simp; (try w_num); first | done | exact rfl)); (focus (simp [go_sem, *]; done)); walk_nrm)
    ((with_reducible refine gi_value (v := ?_) (o := ?_) ?_ ?_ ?_ (fun _ _ => ?_) (fun _ _ => ?_) ?_); rotate_left 2; (focus exact rfl); (focus exact rfl); (focus k_ne); (focus (go_simp; (try w_num); first | done | exact rfl)); (focus (simp [go_sem, *]; done)); walk_nrm)
    ((with_reducible refine gi_value (v := ?_) (o := ?_) ?_ ?_ ?_ (fun _ _ => ?_) (fun _ _ => ?_) ?_); rotate_left 2; (focus exact rfl); (focus exact rfl); (focus k_ne); (focus (go_simp; (try w_num); first | done | exact rfl)); (focus (simp [go_sem, *]; done)); walk_nrm)
    (with_reducible apply gi_regend)
    ((with_reducible apply gi_cod (t := true)); (focus first | rfl | (simp [Act.eval]; done) | (simp [Act.eval]; omega)); simp only [if_true, if_false, Bool.false_eq_true, ↓reduceIte])
    ((with_reducible apply gi_region); simp only [List.size_toArray, List.length_cons, List.length_nil, Nat.reduceAdd, Nat.zero_add, List.range, List.range.loop])
    ((with_reducible refine gi_value (v := ?_) (o := ?_) ?_ ?_ ?_ (fun _ _ => ?_) (fun _ _ => ?_) ?_); rotate_left 2; (focus exact rfl); (focus exact rfl); (focus k_ne); (focus (go_simp; (try w_num); first | done | exact rfl)); (focus (simp [go_sem, *]; done)); walk_nrm)
    ((with_reducible refine gi_value (v := ?_) (o := ?_) ?_ ?_ ?_ (fun _ _ => ?_) (fun _ _ => ?_) ?_); rotate_left 2; (focus exact rfl); (focus exact rfl); (focus k_ne); (focus (go_simp; (try w_num); first | done | exact rfl)); (focus (simp [go_sem, *]; done)); walk_nrm)
    ((with_reducible refine gi_value (v := ?_) (o := ?_) ?_ ?_ ?_ (fun _ _ => ?_) (fun _ _ => ?_) ?_); rotate_left 2; (focus exact rfl); (focus exact rfl); (focus k_ne); (focus (go_simp; (try w_num); first | done | exact rfl)); (focus (simp [go_sem, *]; done)); walk_nrm)
    (refine gi_conv H.underlying_tPU32 H.underlying_tUP H.room_tU32 (fun w hw => (wg_cell1 (hI hw))) rfl rfl (by k_ne) rfl rfl ?_; walk_nrm)
    refine GoD.halt fun w₁ h₁ => .inr ?_
    clear h₁
    refine ⟨rfl, _, stepG_markAt .read (by simp) rfl rfl (by k_ne) rfl H.f_raceRead (x_raceRead_n L) (x_raceRead_b L) (x_raceRead_x L) (x_raceRead_f L) (ad := ⟨Wg, 1, none⟩) (by simp [Act.eval]), 80, ?_⟩
    clear w₁
    walk_nrm
    (with_reducible apply gi_regend)
    (with_reducible apply gi_seq)
    (with_reducible apply gi_seq)
    ((with_reducible apply gi_region); simp only [List.size_toArray, List.length_cons, List.length_nil, Nat.reduceAdd, Nat.zero_add, List.range, List.range.loop])
    ((with_reducible refine gi_value (v := ?_) (o := ?_) ?_ ?_ ?_ (fun _ _ => ?_) (fun _ _ => ?_) ?_); rotate_left 2; (focus exact rfl); (focus exact rfl); (focus k_ne); (focus (go_simp; (try w_num); first | done | exact rfl)); (focus (simp [go_sem, *]; done)); walk_nrm)
    ((with_reducible refine gi_value (v := ?_) (o := ?_) ?_ ?_ ?_ (fun _ _ => ?_) (fun _ _ => ?_) ?_); rotate_left 2; (focus exact rfl); (focus exact rfl); (focus k_ne); (focus (go_simp; (try w_num); first | done | exact rfl)); (focus (simp [go_sem, *]; done)); walk_nrm)
    (with_reducible apply gi_regend)
    ((with_reducible apply gi_cod (t := false)); (focus first | rfl | (simp [Act.eval]; done) | (simp [Act.eval]; omega)); simp only [if_true, if_false, Bool.false_eq_true, ↓reduceIte])
    (with_reducible apply gi_codeskip)
    (with_reducible apply gi_seq)
    (with_reducible apply gi_seq)
    ((with_reducible apply gi_region); simp only [List.size_toArray, List.length_cons, List.length_nil, Nat.reduceAdd, Nat.zero_add, List.range, List.range.loop])
    ((with_reducible refine gi_value (v := ?_) (o := ?_) ?_ ?_ ?_ (fun _ _ => ?_) (fun _ _ => ?_) ?_); rotate_left 2; (focus exact rfl); (focus exact rfl); (focus k_ne); (focus (go_simp; (try w_num); first | done | exact rfl)); (focus (simp [go_sem, *]; done)); walk_nrm)
    ((with_reducible refine gi_value (v := ?_) (o := ?_) ?_ ?_ ?_ (fun _ _ => ?_) (fun _ _ => ?_) ?_); rotate_left 2; (focus exact rfl); (focus exact rfl); (focus k_ne); (focus (go_simp; (try w_num); first | done | exact rfl)); (focus (simp [go_sem, *]; done)); walk_nrm)
    ((with_reducible refine gi_value (v := ?_) (o := ?_) ?_ ?_ ?_ (fun _ _ => ?_) (fun _ _ => ?_) ?_); rotate_left 2; (focus exact rfl); (focus exact rfl); (focus k_ne); (focus (go_simp; (try w_num); first | done | exact rfl)); (focus (simp [go_sem, *]; done)); walk_nrm)
    ((with_reducible refine gi_unwanted (o := ?_) ?_ ?_ ?_); rotate_left; (focus exact rfl); (focus exact rfl); walk_nrm)
    ((with_reducible refine gi_unwanted (o := ?_) ?_ ?_ ?_); rotate_left; (focus exact rfl); (focus exact rfl); walk_nrm)
    ((with_reducible refine gi_value (v := ?_) (o := ?_) ?_ ?_ ?_ (fun _ _ => ?_) (fun _ _ => ?_) ?_); rotate_left 2; (focus exact rfl); (focus exact rfl); (focus k_ne); (focus (go_simp; (try w_num); first | done | exact rfl)); (focus (simp [go_sem, *]; done)); walk_nrm)
    ((with_reducible refine gi_value (v := ?_) (o := ?_) ?_ ?_ ?_ (fun _ _ => ?_) (fun _ _ => ?_) ?_); rotate_left 2; (focus exact rfl); (focus exact rfl); (focus k_ne); (focus (go_simp; (try w_num); first | done | exact rfl)); (focus (simp [go_sem, *]; done)); walk_nrm)
    ((with_reducible refine gi_unwanted (o := ?_) ?_ ?_ ?_); rotate_left; (focus exact rfl); (focus exact rfl); walk_nrm)
    ((with_reducible refine gi_unwanted (o := ?_) ?_ ?_ ?_); rotate_left; (focus exact rfl); (focus exact rfl); walk_nrm)
    ((with_reducible refine gi_unwanted (o := ?_) ?_ ?_ ?_); rotate_left; (focus exact rfl); (focus exact rfl); walk_nrm)
    ((with_reducible refine gi_unwanted (o := ?_) ?_ ?_ ?_); rotate_left; (focus exact rfl); (focus exact rfl); walk_nrm)
    ((with_reducible refine gi_value (v := ?_) (o := ?_) ?_ ?_ ?_ (fun _ _ => ?_) (fun _ _ => ?_) ?_); rotate_left 2; (focus exact rfl); (focus exact rfl); (focus k_ne); (focus (go_simp; (try w_num); first | done | exact rfl)); (focus (simp [go_sem, *]; done)); walk_nrm)
    (with_reducible apply gi_regend)
    ((with_reducible apply gi_cod (t := false)); (focus first | rfl | (simp [Act.eval]; done) | (simp [Act.eval]; omega)); simp only [if_true, if_false, Bool.false_eq_true, ↓reduceIte])
    (with_reducible apply gi_codeskip)
    (with_reducible apply gi_seq)
    (with_reducible apply gi_seq)
    ((with_reducible apply gi_region); simp only [List.size_toArray, List.length_cons, List.length_nil, Nat.reduceAdd, Nat.zero_add, List.range, List.range.loop])
    ((with_reducible refine gi_value (v := ?_) (o := ?_) ?_ ?_ ?_ (fun _ _ => ?_) (fun _ _ => ?_) ?_); rotate_left 2; (focus exact rfl); (focus exact rfl); (focus k_ne); (focus (go_simp; (try w_num); first | done | exact rfl)); (focus (simp [go_sem, *]; done)); walk_nrm)
    ((with_reducible refine gi_value (v := ?_) (o := ?_) ?_ ?_ ?_ (fun _ _ => ?_) (fun _ _ => ?_) ?_); rotate_left 2; (focus exact rfl); (focus exact rfl); (focus k_ne); (focus (go_simp; (try w_num); first | done | exact rfl)); (focus (simp [go_sem, *]; done)); walk_nrm)
    ((with_reducible refine gi_value (v := ?_) (o := ?_) ?_ ?_ ?_ (fun _ _ => ?_) (fun _ _ => ?_) ?_); rotate_left 2; (focus exact rfl); (focus exact rfl); (focus k_ne); (focus (go_simp; (try w_num); first | done | exact rfl)); (focus (simp [go_sem, *]; done)); walk_nrm)
    ((with_reducible refine gi_unwanted (o := ?_) ?_ ?_ ?_); rotate_left; (focus exact rfl); (focus exact rfl); walk_nrm)
    ((with_reducible refine gi_unwanted (o := ?_) ?_ ?_ ?_); rotate_left; (focus exact rfl); (focus exact rfl); walk_nrm)
    ((with_reducible refine gi_value (v := ?_) (o := ?_) ?_ ?_ ?_ (fun _ _ => ?_) (fun _ _ => ?_) ?_); rotate_left 2; (focus exact rfl); (focus exact rfl); (focus k_ne); (focus (go_simp; (try w_num); first | done | exact rfl)); (focus (simp [go_sem, *]; done)); walk_nrm)
    (with_reducible apply gi_regend)
    ((with_reducible apply gi_cod (t := true)); (focus first | rfl | (simp [Act.eval]; done) | (simp [Act.eval]; omega)); simp only [if_true, if_false, Bool.false_eq_true, ↓reduceIte])
    (with_reducible apply gi_ret)
    refine GoD.halt fun w₁ h₁ => ?_
    clear h₁
    refine ⟨rfl, _, stepG_unwind_entry (v := .tuple #[]) (evs := #[mk .enable]) rfl H.f_enable (x_enable_n L) (x_enable_b L) (x_enable_x L) (x_enable_f L) (by simp [Extern.Race.none_]) (by simp [mk]) (by simp [mk]), 1, ?_⟩
    (refine gi_leave0 rfl rfl H.f_add rfl ?_; walk_nrm)
    exact GoD.halt fun w₁ h₁ => rfl
  · obtain ⟨V, hV⟩ : ∃ V : Int, V = (v : Int) + 1 := ⟨_, rfl⟩
    obtain ⟨S, hS⟩ : ∃ S : Int, S = V * KK := ⟨_, rfl⟩
    have eS : IntKind.u64.wrap ((v : Int) * KK + 4294967296) = S := by rw [IntKind.wrap_u64, hS, hV]; simp only [KK]; omega
    rw [← hV, ← hS]
    have a1 : S / 4294967296 = V := by rw [hS]; simp only [KK]; omega
    have b1 : bits .and .u64 S 2147483648 = 0 := by rw [hS, hV]; have := st_flag (v + 1) 0 (by omega) (by omega); simpa [KK] using this
    have b2 : bits .and .u64 S 2147483647 = 0 := by rw [hS, hV]; have := st_waiters (v + 1) 0 (by omega) (by omega); simpa [KK] using this
    have c1 : IntKind.i32.wrap V = V := by rw [IntKind.wrap_i32]; omega
    have hV1 : 1 < V := by omega
    have q1 : (V == 1) = false := by simp; omega
    have q2 : decide (V = 1) = false := decide_eq_false (by omega)
    have q3 : decide (V < 0) = false := decide_eq_false (by omega)
    have q4 : decide (0 < V) = true := decide_eq_true (by omega)
    have q5 : (V == 0) = false := by simp; omega
    have q6 : decide (V = 0) = false := decide_eq_false (by omega)
    refine ⟨_, (stepG_add_atomic rfl rfl (by k_ne) rfl H.f_addU64 (x_addU64_n L) (x_addU64_b L) (x_addU64_x L) .u64 (x_addU64_f L) rfl rfl hw.cellSt (hw.thaw 0)).trans (by rw [eS]; rfl), 120, ?_⟩
    clear hw hS hV eS
    walk_nrm
    ((with_reducible refine gi_value (v := ?_) (o := ?_) ?_ ?_ ?_ (fun _ _ => ?_) (fun _ _ => ?_) ?_); rotate_left 2; (focus exact rfl); (focus exact rfl); (focus k_ne); (focus (go_simp; (try simp only [a1, b1, b2, c1, q1, q2, q3, q4, q5, q6]); (try w_num); first | done | exact rfl)); (focus (simp [go_sem, *]; done)); walk_nrm)
    (with_reducible apply gi_regend)
    (with_reducible apply gi_ret)
    (refine gi_leave1 rfl rfl H.f_uAdd rfl ?_; walk_nrm)
    ((with_reducible refine gi_value (v := ?_) (o := ?_) ?_ ?_ ?_ (fun _ _ => ?_) (fun _ _ => ?_) ?_); rotate_left 2; (focus exact rfl); (focus exact rfl); (focus k_ne); (focus (go_simp; (try simp only [a1, b1, b2, c1, q1, q2, q3, q4, q5, q6]); (try w_num); first | done | exact rfl)); (focus (simp [go_sem, *]; done)); walk_nrm)
    (with_reducible apply gi_regend)
    (with_reducible apply gi_seq)
    (with_reducible apply gi_seq)
    ((with_reducible apply gi_region); simp only [List.size_toArray, List.length_cons, List.length_nil, Nat.reduceAdd, Nat.zero_add, List.range, List.range.loop])
    ((with_reducible refine gi_value (v := ?_) (o := ?_) ?_ ?_ ?_ (fun _ _ => ?_) (fun _ _ => ?_) ?_); rotate_left 2; (focus exact rfl); (focus exact rfl); (focus k_ne); (focus (go_simp; (try simp only [a1, b1, b2, c1, q1, q2, q3, q4, q5, q6]); (try w_num); first | done | exact rfl)); (focus (simp [go_sem, *]; done)); walk_nrm)
    ((with_reducible refine gi_value (v := ?_) (o := ?_) ?_ ?_ ?_ (fun _ _ => ?_) (fun _ _ => ?_) ?_); rotate_left 2; (focus exact rfl); (focus exact rfl); (focus k_ne); (focus (go_simp; (try simp only [a1, b1, b2, c1, q1, q2, q3, q4, q5, q6]); (try w_num); first | done | exact rfl)); (focus (simp [go_sem, *]; done)); walk_nrm)
    ((with_reducible refine gi_value (v := ?_) (o := ?_) ?_ ?_ ?_ (fun _ _ => ?_) (fun _ _ => ?_) ?_); rotate_left 2; (focus exact rfl); (focus exact rfl); (focus k_ne); (focus (go_simp; (try simp only [a1, b1, b2, c1, q1, q2, q3, q4, q5, q6]); (try w_num); first | done | exact rfl)); (focus (simp [go_sem, *]; done)); walk_nrm)
    ((with_reducible refine gi_value (v := ?_) (o := ?_) ?_ ?_ ?_ (fun _ _ => ?_) (fun _ _ => ?_) ?_); rotate_left 2; (focus exact rfl); (focus exact rfl); (focus k_ne); (focus (go_simp; (try simp only [a1, b1, b2, c1, q1, q2, q3, q4, q5, q6]); (try w_num); first | done | exact rfl)); (focus (simp [go_sem, *]; done)); walk_nrm)
    ((with_reducible refine gi_unwanted (o := ?_) ?_ ?_ ?_); rotate_left; (focus exact rfl); (focus exact rfl); walk_nrm)
    ((with_reducible refine gi_unwanted (o := ?_) ?_ ?_ ?_); rotate_left; (focus exact rfl); (focus exact rfl); walk_nrm)
    ((with_reducible refine gi_value (v := ?_) (o := ?_) ?_ ?_ ?_ (fun _ _ => ?_) (fun _ _ => ?_) ?_); rotate_left 2; (focus exact rfl); (focus exact rfl); (focus k_ne); (focus (go_simp; (try simp only [a1, b1, b2, c1, q1, q2, q3, q4, q5, q6]); (try w_num); first | done | exact rfl)); (focus (simp [go_sem, *]; done)); walk_nrm)
    (with_reducible apply gi_regend)
    ((with_reducible apply gi_cod (t := false)); (focus first | rfl | (simp [Act.eval]; done) | (simp [Act.eval]; omega)); simp only [if_true, if_false, Bool.false_eq_true, ↓reduceIte])
    (with_reducible apply gi_codeskip)
    (with_reducible apply gi_seq)
    ((with_reducible apply gi_region); simp only [List.size_toArray, List.length_cons, List.length_nil, Nat.reduceAdd, Nat.zero_add, List.range, List.range.loop])
    ((with_reducible refine gi_value (v := ?_) (o := ?_) ?_ ?_ ?_ (fun _ _ => ?_) (fun _ _ => ?_) ?_); rotate_left 2; (focus exact rfl); (focus exact rfl); (focus k_ne); (focus (go_simp; (try simp only [a1, b1, b2, c1, q1, q2, q3, q4, q5, q6]); (try w_num); first | done | exact rfl)); (focus (simp [go_sem, *]; done)); walk_nrm)
    ((with_reducible refine gi_value (v := ?_) (o := ?_) ?_ ?_ ?_ (fun _ _ => ?_) (fun _ _ => ?_) ?_); rotate_left 2; (focus exact rfl); (focus exact rfl); (focus k_ne); (focus (go_simp; (try simp only [a1, b1, b2, c1, q1, q2, q3, q4, q5, q6]); (try w_num); first | done | exact rfl)); (focus (simp [go_sem, *]; done)); walk_nrm)
    ((with_reducible refine gi_value (v := ?_) (o := ?_) ?_ ?_ ?_ (fun _ _ => ?_) (fun _ _ => ?_) ?_); rotate_left 2; (focus exact rfl); (focus exact rfl); (focus k_ne); (focus (go_simp; (try simp only [a1, b1, b2, c1, q1, q2, q3, q4, q5, q6]); (try w_num); first | done | exact rfl)); (focus (simp [go_sem, *]; done)); walk_nrm)
    ((with_reducible refine gi_value (v := ?_) (o := ?_) ?_ ?_ ?_ (fun _ _ => ?_) (fun _ _ => ?_) ?_); rotate_left 2; (focus exact rfl); (focus exact rfl); (focus k_ne); (focus (go_simp; (try simp only [a1, b1, b2, c1, q1, q2, q3, q4, q5, q6]); (try w_num); first | done | exact rfl)); (focus (simp [go_sem, *]; done)); walk_nrm)
    (with_reducible apply gi_regend)
    (with_reducible apply gi_seq)
    ((with_reducible apply gi_region); simp only [List.size_toArray, List.length_cons, List.length_nil, Nat.reduceAdd, Nat.zero_add, List.range, List.range.loop])
    ((with_reducible refine gi_value (v := ?_) (o := ?_) ?_ ?_ ?_ (fun _ _ => ?_) (fun _ _ => ?_) ?_); rotate_left 2; (focus exact rfl); (focus exact rfl); (focus k_ne); (focus (go_simp; (try simp only [a1, b1, b2, c1, q1, q2, q3, q4, q5, q6]); (try w_num); first | done | exact rfl)); (focus (simp [go_sem, *]; done)); walk_nrm)
    ((with_reducible refine gi_value (v := ?_) (o := ?_) ?_ ?_ ?_ (fun _ _ => ?_) (fun _ _ => ?_) ?_); rotate_left 2; (focus exact rfl); (focus exact rfl); (focus k_ne); (focus (go_simp; (try simp only [a1, b1, b2, c1, q1, q2, q3, q4, q5, q6]); (try w_num); first | done | exact rfl)); (focus (simp [go_sem, *]; done)); walk_nrm)
    ((with_reducible refine gi_value (v := ?_) (o := ?_) ?_ ?_ ?_ (fun _ _ => ?_) (fun _ _ => ?_) ?_); rotate_left 2; (focus exact rfl); (focus exact rfl); (focus k_ne); (focus (go_simp; (try simp only [a1, b1, b2, c1, q1, q2, q3, q4, q5, q6]); (try w_num); first | done | exact rfl)); (focus (simp [go_sem, *]; done)); walk_nrm)
    ((with_reducible refine gi_value (v := ?_) (o := ?_) ?_ ?_ ?_ (fun _ _ => ?_) (fun _ _ => ?_) ?_); rotate_left 2; (focus exact rfl); (focus exact rfl); (focus k_ne); (focus (go_simp; (try simp only [a1, b1, b2, c1, q1, q2, q3, q4, q5, q6]); (try w_num); first | done | exact rfl)); (focus (simp [go_sem, *]; done)); walk_nrm)
    (with_reducible apply gi_regend)
    (with_reducible apply gi_seq)
    (with_reducible apply gi_seq)
    ((with_reducible apply gi_region); simp only [List.size_toArray, List.length_cons, List.length_nil, Nat.reduceAdd, Nat.zero_add, List.range, List.range.loop])
    ((with_reducible refine gi_value (v := ?_) (o := ?_) ?_ ?_ ?_ (fun _ _ => ?_) (fun _ _ => ?_) ?_); rotate_left 2; (focus exact rfl); (focus exact rfl); (focus k_ne); (focus (go_simp; (try simp only [a1, b1, b2, c1, q1, q2, q3, q4, q5, q6]); (try w_num); first | done | exact rfl)); (focus (simp [go_sem, *]; done)); walk_nrm)
    ((with_reducible refine gi_value (v := ?_) (o := ?_) ?_ ?_ ?_ (fun _ _ => ?_) (fun _ _ => ?_) ?_); rotate_left 2; (focus exact rfl); (focus exact rfl); (focus k_ne); (focus (go_simp; (try simp only [a1, b1, b2, c1, q1, q2, q3, q4, q5, q6]); (try w_num); first | done | exact rfl)); (focus (simp [go_sem, *]; done)); walk_nrm)
    ((with_reducible refine gi_value (v := ?_) (o := ?_) ?_ ?_ ?_ (fun _ _ => ?_) (fun _ _ => ?_) ?_); rotate_left 2; (focus exact rfl); (focus exact rfl); (focus k_ne); (focus (go_simp; (try simp only [a1, b1, b2, c1, q1, q2, q3, q4, q5, q6]); (try w_num); first | done | exact rfl)); (focus (simp [go_sem, *]; done)); walk_nrm)
    ((with_reducible refine gi_value (v := ?_) (o := ?_) ?_ ?_ ?_ (fun _ _ => ?_) (fun _ _ => ?_) ?_); rotate_left 2; (focus exact rfl); (focus exact rfl); (focus k_ne); (focus (go_simp; (try simp only [a1, b1, b2, c1, q1, q2, q3, q4, q5, q6]); (try w_num); first | done | exact rfl)); (focus (simp [go_sem, *]; done)); walk_nrm)
    ((with_reducible refine gi_value (v := ?_) (o := ?_) ?_ ?_ ?_ (fun _ _ => ?_) (fun _ _ => ?_) ?_); rotate_left 2; (focus exact rfl); (focus exact rfl); (focus k_ne); (focus (go_simp; (try simp only [a1, b1, b2, c1, q1, q2, q3, q4, q5, q6]); (try w_num); first | done | exact rfl)); (focus (simp [go_sem, *]; done)); walk_nrm)
    ((with_reducible refine gi_value (v := ?_) (o := ?_) ?_ ?_ ?_ (fun _ _ => ?_) (fun _ _ => ?_) ?_); rotate_left 2; (focus exact rfl); (focus exact rfl); (focus k_ne); (focus (go_simp; (try simp only [a1, b1, b2, c1, q1, q2, q3, q4, q5, q6]); (try w_num); first | done | exact rfl)); (focus (simp [go_sem, *]; done)); walk_nrm)
    ((with_reducible refine gi_value (v := ?_) (o := ?_) ?_ ?_ ?_ (fun _ _ => ?_) (fun _ _ => ?_) ?_); rotate_left 2; (focus exact rfl); (focus exact rfl); (focus k_ne); (focus (go_simp; (try simp only [a1, b1, b2, c1, q1, q2, q3, q4, q5, q6]); (try w_num); first | done | exact rfl)); (focus (simp [go_sem, *]; done)); walk_nrm)
    ((with_reducible refine gi_value (v := ?_) (o := ?_) ?_ ?_ ?_ (fun _ _ => ?_) (fun _ _ => ?_) ?_); rotate_left 2; (focus exact rfl); (focus exact rfl); (focus k_ne); (focus (go_simp; (try simp only [a1, b1, b2, c1, q1, q2, q3, q4, q5, q6]); (try w_num); first | done | exact rfl)); (focus (simp [go_sem, *]; done)); walk_nrm)
    ((with_reducible refine gi_value (v := ?_) (o := ?_) ?_ ?_ ?_ (fun _ _ => ?_) (fun _ _ => ?_) ?_); rotate_left 2; (focus exact rfl); (focus exact rfl); (focus k_ne); (focus (go_simp; (try simp only [a1, b1, b2, c1, q1, q2, q3, q4, q5, q6]); (try w_num); first | done | exact rfl)); (focus (simp [go_sem, *]; done)); walk_nrm)
    ((with_reducible refine gi_value (v := ?_) (o := ?_) ?_ ?_ ?_ (fun _ _ => ?_) (fun _ _ => ?_) ?_); rotate_left 2; (focus exact rfl); (focus exact rfl); (focus k_ne); (focus (go_simp; (try simp only [a1, b1, b2, c1, q1, q2, q3, q4, q5, q6]); (try w_num); first | done | exact rfl)); (focus (simp [go_sem, *]; done)); walk_nrm)
    (with_reducible apply gi_regend)
    ((with_reducible apply gi_cod (t := false)); (focus first | rfl | (simp [Act.eval]; done) | (simp [Act.eval]; omega)); simp only [if_true, if_false, Bool.false_eq_true, ↓reduceIte])
    (with_reducible apply gi_codeskip)
    (with_reducible apply gi_seq)
    (with_reducible apply gi_seq)
    ((with_reducible apply gi_region); simp only [List.size_toArray, List.length_cons, List.length_nil, Nat.reduceAdd, Nat.zero_add, List.range, List.range.loop])
    ((with_reducible refine gi_value (v := ?_) (o := ?_) ?_ ?_ ?_ (fun _ _ => ?_) (fun _ _ => ?_) ?_); rotate_left 2; (focus exact rfl); (focus exact rfl); (focus k_ne); (focus (go_simp; (try simp only [a1, b1, b2, c1, q1, q2, q3, q4, q5, q6]); (try w_num); first | done | exact rfl)); (focus (simp [go_sem, *]; done)); walk_nrm)
    ((with_reducible refine gi_value (v := ?_) (o := ?_) ?_ ?_ ?_ (fun _ _ => ?_) (fun _ _ => ?_) ?_); rotate_left 2; (focus exact rfl); (focus exact rfl); (focus k_ne); (focus (go_simp; (try simp only [a1, b1, b2, c1, q1, q2, q3, q4, q5, q6]); (try w_num); first | done | exact rfl)); (focus (simp [go_sem, *]; done)); walk_nrm)
    (with_reducible apply gi_regend)
    ((with_reducible apply gi_cod (t := false)); (focus first | rfl | (simp [Act.eval]; done) | (simp [Act.eval]; omega)); simp only [if_true, if_false, Bool.false_eq_true, ↓reduceIte])
    (with_reducible apply gi_codeskip)
    (with_reducible apply gi_seq)
    (with_reducible apply gi_seq)
    ((with_reducible apply gi_region); simp only [List.size_toArray, List.length_cons, List.length_nil, Nat.reduceAdd, Nat.zero_add, List.range, List.range.loop])
    ((with_reducible refine gi_value (v := ?_) (o := ?_) ?_ ?_ ?_ (fun _ _ => ?_) (fun _ _ => ?_) ?_); rotate_left 2; (focus exact rfl); (focus exact rfl); (focus k_ne); (focus (go_simp; (try simp only [a1, b1, b2, c1, q1, q2, q3, q4, q5, q6]); (try w_num); first | done | exact rfl)); (focus (simp [go_sem, *]; done)); walk_nrm)
    ((with_reducible refine gi_value (v := ?_) (o := ?_) ?_ ?_ ?_ (fun _ _ => ?_) (fun _ _ => ?_) ?_); rotate_left 2; (focus exact rfl); (focus exact rfl); (focus k_ne); (focus (go_simp; (try simp only [a1, b1, b2, c1, q1, q2, q3, q4, q5, q6]); (try w_num); first | done | exact rfl)); (focus (simp [go_sem, *]; done)); walk_nrm)
    ((with_reducible refine gi_value (v := ?_) (o := ?_) ?_ ?_ ?_ (fun _ _ => ?_) (fun _ _ => ?_) ?_); rotate_left 2; (focus exact rfl); (focus exact rfl); (focus k_ne); (focus (go_simp; (try simp only [a1, b1, b2, c1, q1, q2, q3, q4, q5, q6]); (try w_num); first | done | exact rfl)); (focus (simp [go_sem, *]; done)); walk_nrm)
    ((with_reducible refine gi_unwanted (o := ?_) ?_ ?_ ?_); rotate_left; (focus exact rfl); (focus exact rfl); walk_nrm)
    ((with_reducible refine gi_unwanted (o := ?_) ?_ ?_ ?_); rotate_left; (focus exact rfl); (focus exact rfl); walk_nrm)
    ((with_reducible refine gi_value (v := ?_) (o := ?_) ?_ ?_ ?_ (fun _ _ => ?_) (fun _ _ => ?_) ?_); rotate_left 2; (focus exact rfl); (focus exact rfl); (focus k_ne); (focus (go_simp; (try simp only [a1, b1, b2, c1, q1, q2, q3, q4, q5, q6]); (try w_num); first | done | exact rfl)); (focus (simp [go_sem, *]; done)); walk_nrm)
    ((with_reducible refine gi_value (v := ?_) (o := ?_) ?_ ?_ ?_ (fun _ _ => ?_) (fun _ _ => ?_) ?_); rotate_left 2; (focus exact rfl); (focus exact rfl); (focus k_ne); (focus (go_simp; (try simp only [a1, b1, b2, c1, q1, q2, q3, q4, q5, q6]); (try w_num); first | done | exact rfl)); (focus (simp [go_sem, *]; done)); walk_nrm)
    ((with_reducible refine gi_unwanted (o := ?_) ?_ ?_ ?_); rotate_left; (focus exact rfl); (focus exact rfl); walk_nrm)
    ((with_reducible refine gi_unwanted (o := ?_) ?_ ?_ ?_); rotate_left; (focus exact rfl); (focus exact rfl); walk_nrm)
    ((with_reducible refine gi_unwanted (o := ?_) ?_ ?_ ?_); rotate_left; (focus exact rfl); (focus exact rfl); walk_nrm)
    ((with_reducible refine gi_unwanted (o := ?_) ?_ ?_ ?_); rotate_left; (focus exact rfl); (focus exact rfl); walk_nrm)
    ((with_reducible refine gi_value (v := ?_) (o := ?_) ?_ ?_ ?_ (fun _ _ => ?_) (fun _ _ => ?_) ?_); rotate_left 2; (focus exact rfl); (focus exact rfl); (focus k_ne); (focus (go_simp; (try simp only [a1, b1, b2, c1, q1, q2, q3, q4, q5, q6]); (try w_num); first | done | exact rfl)); (focus (simp [go_sem, *]; done)); walk_nrm)
    (with_reducible apply gi_regend)
    ((with_reducible apply gi_cod (t := false)); (focus first | rfl | (simp [Act.eval]; done) | (simp [Act.eval]; omega)); simp only [if_true, if_false, Bool.false_eq_true, ↓reduceIte])
    (with_reducible apply gi_codeskip)
    (with_reducible apply gi_seq)
    (with_reducible apply gi_seq)
    ((with_reducible apply gi_region); simp only [List.size_toArray, List.length_cons, List.length_nil, Nat.reduceAdd, Nat.zero_add, List.range, List.range.loop])
    ((with_reducible refine gi_value (v := ?_) (o := ?_) ?_ ?_ ?_ (fun _ _ => ?_) (fun _ _ => ?_) ?_); rotate_left 2; (focus exact rfl); (focus exact rfl); (focus k_ne); (focus (go_simp; (try simp only [a1, b1, b2, c1, q1, q2, q3, q4, q5, q6]); (try w_num); first | done | exact rfl)); (focus (simp [go_sem, *]; done)); walk_nrm)
    ((with_reducible refine gi_value (v := ?_) (o := ?_) ?_ ?_ ?_ (fun _ _ => ?_) (fun _ _ => ?_) ?_); rotate_left 2; (focus exact rfl); (focus exact rfl); (focus k_ne); (focus (go_simp; (try simp only [a1, b1, b2, c1, q1, q2, q3, q4, q5, q6]); (try w_num); first | done | exact rfl)); (focus (simp [go_sem, *]; done)); walk_nrm)
    ((with_reducible refine gi_value (v := ?_) (o := ?_) ?_ ?_ ?_ (fun _ _ => ?_) (fun _ _ => ?_) ?_); rotate_left 2; (focus exact rfl); (focus exact rfl); (focus k_ne); (focus (go_simp; (try simp only [a1, b1, b2, c1, q1, q2, q3, q4, q5, q6]); (try w_num); first | done | exact rfl)); (focus (simp [go_sem, *]; done)); walk_nrm)
    ((with_reducible refine gi_unwanted (o := ?_) ?_ ?_ ?_); rotate_left; (focus exact rfl); (focus exact rfl); walk_nrm)
    ((with_reducible refine gi_unwanted (o := ?_) ?_ ?_ ?_); rotate_left; (focus exact rfl); (focus exact rfl); walk_nrm)
    ((with_reducible refine gi_value (v := ?_) (o := ?_) ?_ ?_ ?_ (fun _ _ => ?_) (fun _ _ => ?_) ?_); rotate_left 2; (focus exact rfl); (focus exact rfl); (focus k_ne); (focus (go_simp; (try simp only [a1, b1, b2, c1, q1, q2, q3, q4, q5, q6]); (try w_num); first | done | exact rfl)); (focus (simp [go_sem, *]; done)); walk_nrm)
    (with_reducible apply gi_regend)
    ((with_reducible apply gi_cod (t := true)); (focus first | rfl | (simp [Act.eval]; done) | (simp [Act.eval]; omega)); simp only [if_true, if_false, Bool.false_eq_true, ↓reduceIte])
    (with_reducible apply gi_ret)
    refine GoD.halt fun w₁ h₁ => .inl ?_
    clear h₁
    refine ⟨rfl, _, stepG_unwind_entry (v := .tuple #[]) (evs := #[mk .enable]) rfl H.f_enable (x_enable_n L) (x_enable_b L) (x_enable_x L) (x_enable_f L) (by simp [Extern.Race.none_]) (by simp [mk]) (by simp [mk]), 1, ?_⟩
    (refine gi_leave0 rfl rfl H.f_add rfl ?_; walk_nrm)
    exact GoD.halt fun w₁ h₁ => rfl
end
end Go.Proofs.Ytgfgoflhmikalaa.par
