/- Part 21 of what the proofs stand on: lemmas on worlds, on goroutines, contracts of functions. No conditions. -/
import Derived.Test.YtgfgoflhmikalaaM20
namespace Go.Proofs.Ytgfgoflhmikalaa.par
open Go Go.Conc Go.RowKit Go.Conc.Lib Go.ConcR.Gen Go.ConcN.Gen
open Go.ConcR (stA smA WgAt KK rd wr mk DC0)
set_option linter.unusedVariables false
set_option linter.unusedSimpArgs false
set_option maxRecDepth 100000
noncomputable def bW : Frame := baseD 44
noncomputable def bodyW : Code := Try.f44.body.getD .skip
noncomputable def callW (Wg fb bl bs wB : Nat) : Deferred := { target := .fn (.func 44) #[.pointer (some ⟨Wg, 0, none⟩), .pointer (some ⟨fb, 0, none⟩), .pointer (some ⟨bl, 0, none⟩), .pointer (some ⟨bs, 0, none⟩), .pointer (some ⟨wB, 0, none⟩)], args := #[] }
theorem loudW : Option.any (fun x => x.norace) (Try.prog).funcs[bW.fn]? = false := by kernel_rfl
noncomputable def botW : Frame := { (default : Frame) with fn := Try.prog.funcs.size, defers := [], mode := .panicking [goexitEntry] }
theorem quitsTailW (T : Array Value) (todo : List Item) : QuitsD Try.prog 2 0 (G { bW.at ⟨T, []⟩ todo with mode := .returning } [botW]) := by
  refine QuitsD.ctl (g' := G botW []) rfl (fun w => ?_) ?_
  · simp [G, stepG, unwind, doReturn, results, Frame.at, bW, baseD, botW, Try.func44, Try.f44, seen, GStep.after, goexitEntry]
  refine QuitsD.ctl (g' := { G botW [] with status := .finished }) rfl (fun w => ?_) ⟨rfl, rfl⟩
  simp [G, stepG, unwind, botW, goexitEntry, Frame.catches]
  rfl
theorem born_stepW (Wg fb bl bs wB : Nat) (w : World) : stepG Try.prog false (born Try.prog (callW Wg fb bl bs wB)) w =
    .go (G (bW.at ⟨#[.pointer (some ⟨Wg, 0, none⟩), .pointer (some ⟨fb, 0, none⟩), .pointer (some ⟨bl, 0, none⟩), .pointer (some ⟨bs, 0, none⟩), .pointer (some ⟨wB, 0, none⟩), undef, undef, undef, undef, undef, undef, undef, undef, undef, undef, undef, undef, undef, undef, undef, undef], []⟩ [.code bodyW]) [botW]) w #[] := by
  simp [born, callW, stepG, unwind, callDeferred, invoke, callFunc, Try.func44, Try.f44, seen, GStep.after, G, Frame.enter, Frame.at, bW, baseD, botW, bodyW]
/-- What the worker's world holds: the boxes; the cuts. -/
structure WkIs (fb bl bs : Nat) (k : Nat) (ad : Option Addr) (n cap : Nat) (s : ByteArray) (cs : Nat → Int × Int × Int) (b off : Nat) (w : World) : Prop where
  first : w.cell? ⟨fb, 0, none⟩ = some (.int .i64 k)
  l : w.cell? ⟨bl, 0, none⟩ = some (.slice ad n cap)
  s : w.cell? ⟨bs, 0, none⟩ = some (.string s)
  el : ∀ i, i < n → w.cell? ⟨b, off + i * 3, none⟩ = some (.int .i64 (cs i).1) ∧ w.cell? ⟨b, off + i * 3 + 1, none⟩ = some (.int .i64 (cs i).2.1) ∧ w.cell? ⟨b, off + i * 3 + 2, none⟩ = some (.int .i64 (cs i).2.2)
/-- At the head of the worker's loop. -/
noncomputable def restW : Code := match bodyW with | .seq _ (.seq _ (.block _ (.loop c))) => c | _ => .skip
def AtHead (Wg fb bl bs wB : Nat) (i : Int) (g : Goroutine) : Prop :=
  ∃ x6 x7 x8 x9 x10 x11 x12 x13 x14 x15 x16 x17 x18 x19 x20, g = G (bW.at ⟨#[.pointer (some ⟨Wg, 0, none⟩), .pointer (some ⟨fb, 0, none⟩), .pointer (some ⟨bl, 0, none⟩), .pointer (some ⟨bs, 0, none⟩), .pointer (some ⟨wB, 0, none⟩), .int .i64 i, x6, x7, x8, x9, x10, x11, x12, x13, x14, x15, x16, x17, x18, x19, x20], [dcall 45 #[.pointer (some ⟨Wg, 0, none⟩)]]⟩ [.code restW, .inLoop restW, .inBlock 0]) [botW]
section
variable {A : Par} {fb bl bs k n cap b off : Nat} {ad : Option Addr} {s : ByteArray} {cs : Nat → Int × Int × Int} {I : World → Prop}
/-- From its birth to its loop. -/
theorem work_start (hI : ∀ w, I w → WkIs fb bl bs k ad n cap s cs b off w) (hRd : ∀ b, b = bl ∨ b = bs → A.Rd b) (Wg wB : Nat) : GoD Try.prog false I (DL A.Rd fb) (fun g _ => AtHead Wg fb bl bs wB k g) 15 (born Try.prog (callW Wg fb bl bs wB)) := by
  refine GoD.more rfl (fun w _ => born_stepW Wg fb bl bs wB w) ?_
  simp only [bodyW, Try.f44, Option.getD_some]
  (with_reducible apply gi_seq)
  ((with_reducible apply gi_region); simp only [List.size_toArray, List.length_cons, List.length_nil, Nat.reduceAdd, Nat.zero_add, List.range, List.range.loop])
  (refine gi_defer rfl rfl (by k_ne) rfl ?_; walk_nrm)
  (with_reducible apply gi_regend)
  (with_reducible apply gi_seq)
  ((with_reducible apply gi_region); simp only [List.size_toArray, List.length_cons, List.length_nil, Nat.reduceAdd, Nat.zero_add, List.range, List.range.loop])
  ((with_reducible refine gi_look (v := ?_) (o := ?_) ?_ ?_ ?_ (fun w hw => ?_) (fun w hw => ?_) ?_); rotate_left 2; (focus exact rfl); (focus exact rfl); (focus k_ne); (focus (have hc1 := (hI w hw).first; have hc2 := (hI w hw).l; have hc3 := (hI w hw).s; go_simp; first | done | exact rfl)); (focus (have hc1 := (hI w hw).first; have hc2 := (hI w hw).l; have hc3 := (hI w hw).s; refine ⟨rfl, rfl, rfl, rfl, fun e he => ?_⟩; simp [go_sem, seen, *] at he; obtain ⟨_, rfl⟩ := he; exact ⟨rfl, _, rfl, by simp [*]⟩)); walk_nrm)
  ((with_reducible refine gi_value (v := ?_) (o := ?_) ?_ ?_ ?_ (fun _ _ => ?_) (fun _ _ => ?_) ?_); rotate_left 2; (focus exact rfl); (focus exact rfl); (focus k_ne); (focus (go_simp; (try w_num); first | done | exact rfl)); (focus (simp [go_sem, *]; done)); walk_nrm)
  (with_reducible apply gi_regend)
  apply gi_block
  apply gi_loop
  exact GoD.halt fun w h => ⟨_, _, _, _, _, _, _, _, _, _, _, _, _, _, _, rfl⟩
/-- Past its last cut: Done. -/
theorem work_end (hI : ∀ w, I w → WkIs fb bl bs k ad n cap s cs b off w) (hIw : ∀ {w : World}, I w → ∃ st sm, WgAt link.tWg A.Wg w st sm) (hRd : ∀ b, b = bl ∨ b = bs → A.Rd b) (wB : Nat) {i : Nat} (hi : n ≤ i) {g : Goroutine} (hg : AtHead A.Wg fb bl bs wB (i : Int) g) :
    GoD Try.prog false I (DL A.Rd fb) (N0 Try.prog I A.Wg (N2 Try.prog I link.tWg A.Wg (N3 Try.prog I link.tWg A.Wg))) 40 g := by
  obtain ⟨x6, x7, x8, x9, x10, x11, x12, x13, x14, x15, x16, x17, x18, x19, x20, rfl⟩ := hg
  simp only [restW, bodyW, Try.f44, Option.getD_some]
  have q0 : decide ((i : Int) < (n : Int)) = false := decide_eq_false (by omega)
  (with_reducible apply gi_seq)
  (with_reducible apply gi_seq)
  ((with_reducible apply gi_region); simp only [List.size_toArray, List.length_cons, List.length_nil, Nat.reduceAdd, Nat.zero_add, List.range, List.range.loop])
  ((with_reducible refine gi_value (v := ?_) (o := ?_) ?_ ?_ ?_ (fun _ _ => ?_) (fun _ _ => ?_) ?_); rotate_left 2; (focus exact rfl); (focus exact rfl); (focus k_ne); (focus (go_simp; (try simp only [q0]); (try w_num); first | done | exact rfl)); (focus (simp [go_sem, *]; done)); walk_nrm)
  ((with_reducible refine gi_look (v := ?_) (o := ?_) ?_ ?_ ?_ (fun w hw => ?_) (fun w hw => ?_) ?_); rotate_left 2; (focus exact rfl); (focus exact rfl); (focus k_ne); (focus (have hc1 := (hI w hw).first; have hc2 := (hI w hw).l; have hc3 := (hI w hw).s; go_simp; first | done | exact rfl)); (focus (have hc1 := (hI w hw).first; have hc2 := (hI w hw).l; have hc3 := (hI w hw).s; refine ⟨rfl, rfl, rfl, rfl, fun e he => ?_⟩; simp [go_sem, seen, *] at he; obtain ⟨_, rfl⟩ := he; exact ⟨rfl, _, rfl, by simp [*]⟩)); walk_nrm)
  ((with_reducible refine gi_value (v := ?_) (o := ?_) ?_ ?_ ?_ (fun _ _ => ?_) (fun _ _ => ?_) ?_); rotate_left 2; (focus exact rfl); (focus exact rfl); (focus k_ne); (focus (go_simp; (try simp only [q0]); (try w_num); first | done | exact rfl)); (focus (simp [go_sem, *]; done)); walk_nrm)
  ((with_reducible refine gi_value (v := ?_) (o := ?_) ?_ ?_ ?_ (fun _ _ => ?_) (fun _ _ => ?_) ?_); rotate_left 2; (focus exact rfl); (focus exact rfl); (focus k_ne); (focus (go_simp; (try simp only [q0]); (try w_num); first | done | exact rfl)); (focus (simp [go_sem, *]; done)); walk_nrm)
  (with_reducible apply gi_regend)
  ((with_reducible apply gi_cod (t := false)); (focus first | rfl | (simp [Act.eval]; done) | (simp [Act.eval]; omega)); simp only [if_true, if_false, Bool.false_eq_true, ↓reduceIte])
  ((with_reducible apply gi_exitc); (focus rfl))
  (with_reducible apply gi_ended)
  refine GoD.more rfl (fun w _ => stepG_unwind_enter rfl Try.func45 (nm_done link) rfl) ?_
  walk_nrmf Try.f45
  have hD := @done_one link Try.prog I A.Wg wgLib hIw
  simp only [body_done, doneFn, Option.getD_some] at hD
  exact ((hD (qt := 2) rfl (quitsTailW _ _)).mono fun w w' es h => by obtain ⟨rfl, rfl⟩ := h; exact Still.still _).up (by omega)
/-- Where the call of 'holds' is to be made good: the frame beneath it. -/
noncomputable def ops4 : Array Oper := match restW with | .seq _ (.seq (.block _ (.seq (.region _ ops _) _)) _) => ops | _ => #[]
noncomputable def cond4 : Code := match restW with | .seq _ (.seq (.block _ (.seq _ c)) _) => c | _ => .skip
noncomputable def next4 : Code := match restW with | .seq _ (.seq _ c) => c | _ => .skip
def AtCall (Wg fb bl bs wB : Nat) (i : Nat) (c : Int × Int × Int) (s : ByteArray) (g : Goroutine) : Prop :=
  ∃ x6 x7 x8 x9 x10 x11 x12 x13 x14 x15 x16 x17 x18 x19 x20, g = G (Frame.enter Try.prog 46 #[.agg #[.int .i64 c.1, .int .i64 c.2.1, .int .i64 c.2.2], .string s] .normal)
    [bW.at ⟨#[.pointer (some ⟨Wg, 0, none⟩), .pointer (some ⟨fb, 0, none⟩), .pointer (some ⟨bl, 0, none⟩), .pointer (some ⟨bs, 0, none⟩), .pointer (some ⟨wB, 0, none⟩), .int .i64 i, x6, x7, x8, x9, x10, x11, x12, x13, x14, x15, x16, x17, x18, x19, x20], [dcall 45 #[.pointer (some ⟨Wg, 0, none⟩)]]⟩ [.inRegion ops4 [5, 6], .code cond4, .inBlock 1, .code next4, .inLoop restW, .inBlock 0], botW]
theorem orders4 : ordersOf .any ops4 ops4.size (Array.replicate ops4.size false) = [[0, 1, 2, 3, 4, 5, 6], [0, 1, 2, 4, 3, 5, 6], [0, 1, 4, 2, 3, 5, 6], [0, 4, 1, 2, 3, 5, 6], [1, 0, 2, 3, 4, 5, 6], [1, 0, 2, 4, 3, 5, 6], [1, 0, 4, 2, 3, 5, 6], [1, 4, 0, 2, 3, 5, 6], [4, 0, 1, 2, 3, 5, 6], [4, 1, 0, 2, 3, 5, 6]] := by kernel_rfl
theorem mixed : (Try.prog : Program).follows .mixedOrders = true := by kernel_rfl
set_option maxHeartbeats 4000000 in
theorem work_call (hI : ∀ w, I w → WkIs fb bl bs k ad n cap s cs b off w) (hRd : ∀ b, b = bl ∨ b = bs → A.Rd b) (had : 0 < n → ad = some ⟨b, off, none⟩ ∧ A.Rd b) (hcs : n < 4611686018427387904) (hdraw : ∀ w : World, I w → I { w with drawn := w.drawn + 1 }) (Wg wB : Nat) {i : Nat} (hi : i < n) {g : Goroutine} (hg : AtHead Wg fb bl bs wB (i : Int) g) :
    GoD Try.prog false I (DL A.Rd fb) (fun g _ => AtCall Wg fb bl bs wB i (cs i) s g) 40 g := by
  obtain ⟨x6, x7, x8, x9, x10, x11, x12, x13, x14, x15, x16, x17, x18, x19, x20, rfl⟩ := hg
  have q0 : decide ((i : Int) < (n : Int)) = true := decide_eq_true (by omega)
  obtain ⟨rfl, hRb⟩ := had (by omega)
  simp only [restW, bodyW, Try.f44, Option.getD_some, AtCall, ops4, cond4, next4]
  (with_reducible apply gi_seq)
  (with_reducible apply gi_seq)
  ((with_reducible apply gi_region); simp only [List.size_toArray, List.length_cons, List.length_nil, Nat.reduceAdd, Nat.zero_add, List.range, List.range.loop])
  ((with_reducible refine gi_value (v := ?_) (o := ?_) ?_ ?_ ?_ (fun _ _ => ?_) (fun _ _ => ?_) ?_); rotate_left 2; (focus exact rfl); (focus exact rfl); (focus k_ne); (focus (go_simp; (try simp only [q0]); (try w_num); first | done | exact rfl)); (focus (simp [go_sem, *]; done)); walk_nrm)
  ((with_reducible refine gi_look (v := ?_) (o := ?_) ?_ ?_ ?_ (fun w hw => ?_) (fun w hw => ?_) ?_); rotate_left 2; (focus exact rfl); (focus exact rfl); (focus k_ne); (focus (have hc1 := (hI w hw).first; have hc2 := (hI w hw).l; have hc3 := (hI w hw).s; go_simp; first | done | exact rfl)); (focus (have hc1 := (hI w hw).first; have hc2 := (hI w hw).l; have hc3 := (hI w hw).s; refine ⟨rfl, rfl, rfl, rfl, fun e he => ?_⟩; simp [go_sem, seen, *] at he; obtain ⟨_, rfl⟩ := he; exact ⟨rfl, _, rfl, by simp [*]⟩)); walk_nrm)
  ((with_reducible refine gi_value (v := ?_) (o := ?_) ?_ ?_ ?_ (fun _ _ => ?_) (fun _ _ => ?_) ?_); rotate_left 2; (focus exact rfl); (focus exact rfl); (focus k_ne); (focus (go_simp; (try simp only [q0]); (try w_num); first | done | exact rfl)); (focus (simp [go_sem, *]; done)); walk_nrm)
  ((with_reducible refine gi_value (v := ?_) (o := ?_) ?_ ?_ ?_ (fun _ _ => ?_) (fun _ _ => ?_) ?_); rotate_left 2; (focus exact rfl); (focus exact rfl); (focus k_ne); (focus (go_simp; (try simp only [q0]); (try w_num); first | done | exact rfl)); (focus (simp [go_sem, *]; done)); walk_nrm)
  (with_reducible apply gi_regend)
  ((with_reducible apply gi_cod (t := true)); (focus first | rfl | (simp [Act.eval]; done) | (simp [Act.eval]; omega)); simp only [if_true, if_false, Bool.false_eq_true, ↓reduceIte])
  (with_reducible apply gi_codeskip)
  (with_reducible apply gi_seq)
  (with_reducible apply gi_block)
  (with_reducible apply gi_seq)
  refine gi_draw (fun w => ⟨rfl, rfl, rfl, rfl, fun e he => absurd he (by simp)⟩) hdraw (fun t => ?_)
  rw [mixed]
  have hm := orders4 ▸ schedule_orders ops4 t
  simp only [ops4, restW, bodyW, Try.f44, Option.getD_some] at hm
  generalize Region.schedule _ _ t = l at hm ⊢
  simp only [List.mem_cons, List.not_mem_nil, or_false] at hm
  rcases hm with rfl | rfl | rfl | rfl | rfl | rfl | rfl | rfl | rfl | rfl
  all_goals (repeat (first | ((with_reducible refine gi_value (v := ?_) (o := ?_) ?_ ?_ ?_ (fun _ _ => ?_) (fun _ _ => ?_) ?_); rotate_left 2; (focus exact rfl); (focus exact rfl); (focus k_ne); (focus (go_simp; (try w_num); first | done | exact rfl)); (focus (simp [go_sem, *]; done)); walk_nrm) | ((with_reducible refine gi_look (v := ?_) (o := ?_) ?_ ?_ ?_ (fun w hw => ?_) (fun w hw => ?_) ?_); rotate_left 2; (focus exact rfl); (focus exact rfl); (focus k_ne); (focus (have hc1 := (hI w hw).first; have hc2 := (hI w hw).l; have hc3 := (hI w hw).s; go_simp; first | done | exact rfl)); (focus (have hc1 := (hI w hw).first; have hc2 := (hI w hw).l; have hc3 := (hI w hw).s; refine ⟨rfl, rfl, rfl, rfl, fun e he => ?_⟩; simp [go_sem, seen, *] at he; obtain ⟨_, rfl⟩ := he; exact ⟨rfl, _, rfl, by simp [*]⟩)); walk_nrm) | ((with_reducible refine gi_look (v := ?_) (o := ?_) ?_ ?_ ?_ (fun w hw => ?_) (fun w hw => ?_) ?_); rotate_left 2; (focus exact rfl); (focus exact rfl); (focus k_ne); (focus (obtain ⟨hc4, hc5, hc6⟩ := (hI w hw).el i hi; go_simp; first | done | exact rfl)); (focus (obtain ⟨hc4, hc5, hc6⟩ := (hI w hw).el i hi; refine ⟨rfl, rfl, rfl, rfl, fun e he => ?_⟩; have hln := loudW; simp [go_sem, seen, *] at he; obtain (rfl | rfl | rfl) := he <;> exact ⟨rfl, _, rfl, by simp [*]⟩)); walk_nrm)))
  all_goals
    refine gi_enter rfl rfl (by k_ne) rfl Try.func46 (by kernel_rfl) (by kernel_rfl) (GoD.halt fun w h => ?_)
    walk_nrm
    exact ⟨_, _, _, _, _, _, _, _, _, _, _, _, _, _, _, rfl⟩
/-- Behind the call. -/
def AfterCall (Wg fb bl bs wB : Nat) (i : Nat) (g : Bool) (gr : Goroutine) : Prop :=
  ∃ x6 x7 x8 x9 x10 x11 x12 x13 x14 x15 x16 x17 x19 x20, gr = G (bW.at ⟨#[.pointer (some ⟨Wg, 0, none⟩), .pointer (some ⟨fb, 0, none⟩), .pointer (some ⟨bl, 0, none⟩), .pointer (some ⟨bs, 0, none⟩), .pointer (some ⟨wB, 0, none⟩), .int .i64 i, x6, x7, x8, x9, x10, x11, x12, x13, x14, x15, x16, x17, .bool g, x19, x20], [dcall 45 #[.pointer (some ⟨Wg, 0, none⟩)]]⟩ [.inRegion ops4 [6], .code cond4, .inBlock 1, .code next4, .inLoop restW, .inBlock 0]) [botW]
theorem work_good (hI : ∀ w, I w → WkIs fb bl bs k ad n cap s cs b off w) (Wg wB : Nat) {i : Nat} (hi : i < 4611686018427387904) {g : Goroutine} (hg : AfterCall Wg fb bl bs wB i true g) :
    GoD Try.prog false I (DL A.Rd fb) (fun g _ => AtHead Wg fb bl bs wB ((i + 4 : Nat) : Int) g) 40 g := by
  obtain ⟨x6, x7, x8, x9, x10, x11, x12, x13, x14, x15, x16, x17, x19, x20, rfl⟩ := hg
  simp only [restW, bodyW, Try.f44, Option.getD_some, ops4, cond4, next4, AtHead]
  have q0 : IntKind.i64.wrap ((i : Int) + 4) = ((i + 4 : Nat) : Int) := by rw [IntKind.wrap_i64]; omega
  ((with_reducible refine gi_value (v := ?_) (o := ?_) ?_ ?_ ?_ (fun _ _ => ?_) (fun _ _ => ?_) ?_); rotate_left 2; (focus exact rfl); (focus exact rfl); (focus k_ne); (focus (go_simp; (try simp only [q0]); (try w_num); first | done | exact rfl)); (focus (simp [go_sem, *]; done)); walk_nrm)
  (with_reducible apply gi_regend)
  ((with_reducible apply gi_cod (t := false)); (focus first | rfl | (simp [Act.eval]; done) | (simp [Act.eval]; omega)); simp only [if_true, if_false, Bool.false_eq_true, ↓reduceIte])
  (with_reducible apply gi_codeskip)
  (with_reducible apply gi_inBlock)
  ((with_reducible apply gi_region); simp only [List.size_toArray, List.length_cons, List.length_nil, Nat.reduceAdd, Nat.zero_add, List.range, List.range.loop])
  ((with_reducible refine gi_value (v := ?_) (o := ?_) ?_ ?_ ?_ (fun _ _ => ?_) (fun _ _ => ?_) ?_); rotate_left 2; (focus exact rfl); (focus exact rfl); (focus k_ne); (focus (go_simp; (try simp only [q0]); (try w_num); first | done | exact rfl)); (focus (simp [go_sem, *]; done)); walk_nrm)
  ((with_reducible refine gi_value (v := ?_) (o := ?_) ?_ ?_ ?_ (fun _ _ => ?_) (fun _ _ => ?_) ?_); rotate_left 2; (focus exact rfl); (focus exact rfl); (focus k_ne); (focus (go_simp; (try simp only [q0]); (try w_num); first | done | exact rfl)); (focus (simp [go_sem, *]; done)); walk_nrm)
  ((with_reducible refine gi_value (v := ?_) (o := ?_) ?_ ?_ ?_ (fun _ _ => ?_) (fun _ _ => ?_) ?_); rotate_left 2; (focus exact rfl); (focus exact rfl); (focus k_ne); (focus (go_simp; (try simp only [q0]); (try w_num); first | done | exact rfl)); (focus (simp [go_sem, *]; done)); walk_nrm)
  (with_reducible apply gi_regend)
  apply gi_inLoop
  exact GoD.halt fun w h => ⟨_, _, _, _, _, _, _, _, _, _, _, _, _, _, _, rfl⟩
theorem x_addI_x : Extern.findNext Try.f67 = none := by rfl
theorem x_addI_f : Extern.find Try.f67 = some (Extern.Atomic.update (Op.intArith .add) .i64 true) := by rfl
/-- At the atomic add of one that is wrong. -/
def AtAdd (P : Program) (I : World → Prop) (D : World → World → Array Event → Prop) (wB : Nat) (S : Goroutine → World → Prop) (g : Goroutine) (w : World) : Prop :=
  g.status = .running ∧ ∀ v : Int, 0 ≤ v → v < 9223372036854775807 → w.cell? ⟨wB, 0, none⟩ = some (.int .i64 v) → w.frozen? ⟨wB, 0, none⟩ = false →
    ∃ g', stepG P false g w = .go g' (w.setCell ⟨wB, 0, none⟩ (.int .i64 (v + 1))) #[rd ⟨wB, 0, none⟩, wr ⟨wB, 0, none⟩] ∧ ∃ m, GoD P false I D S m g'
theorem work_bad (hI : ∀ w, I w → WkIs fb bl bs k ad n cap s cs b off w) (Wg wB : Nat) {i : Nat} (hi : i < 4611686018427387904) {g : Goroutine} (hg : AfterCall Wg fb bl bs wB i false g) :
    GoD Try.prog false I (DL A.Rd fb) (AtAdd Try.prog I (DL A.Rd fb) wB (fun g _ => AtHead Wg fb bl bs wB ((i + 4 : Nat) : Int) g)) 40 g := by
  obtain ⟨x6, x7, x8, x9, x10, x11, x12, x13, x14, x15, x16, x17, x19, x20, rfl⟩ := hg
  simp only [restW, bodyW, Try.f44, Option.getD_some, ops4, cond4, next4, AtHead]
  have q0 : IntKind.i64.wrap ((i : Int) + 4) = ((i + 4 : Nat) : Int) := by rw [IntKind.wrap_i64]; omega
  ((with_reducible refine gi_value (v := ?_) (o := ?_) ?_ ?_ ?_ (fun _ _ => ?_) (fun _ _ => ?_) ?_); rotate_left 2; (focus exact rfl); (focus exact rfl); (focus k_ne); (focus (go_simp; (try simp only [q0]); (try w_num); first | done | exact rfl)); (focus (simp [go_sem, *]; done)); walk_nrm)
  (with_reducible apply gi_regend)
  ((with_reducible apply gi_cod (t := true)); (focus first | rfl | (simp [Act.eval]; done) | (simp [Act.eval]; omega)); simp only [if_true, if_false, Bool.false_eq_true, ↓reduceIte])
  ((with_reducible apply gi_region); simp only [List.size_toArray, List.length_cons, List.length_nil, Nat.reduceAdd, Nat.zero_add, List.range, List.range.loop])
  (refine gi_call rfl rfl (by k_ne) rfl Try.func47 (by kernel_rfl) rfl ?_; walk_nrmf Try.f47)
  (with_reducible apply gi_seq)
  ((with_reducible apply gi_region); simp only [List.size_toArray, List.length_cons, List.length_nil, Nat.reduceAdd, Nat.zero_add, List.range, List.range.loop])
  ((with_reducible refine gi_value (v := ?_) (o := ?_) ?_ ?_ ?_ (fun _ _ => ?_) (fun _ _ => ?_) ?_); rotate_left 2; (focus exact rfl); (focus exact rfl); (focus k_ne); (focus (go_simp; (try simp only [q0]); (try w_num); first | done | exact rfl)); (focus (simp [go_sem, *]; done)); walk_nrm)
  (with_reducible apply gi_regend)
  (with_reducible apply gi_seq)
  ((with_reducible apply gi_region); simp only [List.size_toArray, List.length_cons, List.length_nil, Nat.reduceAdd, Nat.zero_add, List.range, List.range.loop])
  ((with_reducible refine gi_value (v := ?_) (o := ?_) ?_ ?_ ?_ (fun _ _ => ?_) (fun _ _ => ?_) ?_); rotate_left 2; (focus exact rfl); (focus exact rfl); (focus k_ne); (focus (go_simp; (try simp only [q0]); (try w_num); first | done | exact rfl)); (focus (simp [go_sem, *]; done)); walk_nrm)
  ((with_reducible refine gi_value (v := ?_) (o := ?_) ?_ ?_ ?_ (fun _ _ => ?_) (fun _ _ => ?_) ?_); rotate_left 2; (focus exact rfl); (focus exact rfl); (focus k_ne); (focus (go_simp; (try simp only [q0]); (try w_num); first | done | exact rfl)); (focus (simp [go_sem, *]; done)); walk_nrm)
  ((with_reducible refine gi_value (v := ?_) (o := ?_) ?_ ?_ ?_ (fun _ _ => ?_) (fun _ _ => ?_) ?_); rotate_left 2; (focus exact rfl); (focus exact rfl); (focus k_ne); (focus (go_simp; (try simp only [q0]); (try w_num); first | done | exact rfl)); (focus (simp [go_sem, *]; done)); walk_nrm)
  ((with_reducible refine gi_value (v := ?_) (o := ?_) ?_ ?_ ?_ (fun _ _ => ?_) (fun _ _ => ?_) ?_); rotate_left 2; (focus exact rfl); (focus exact rfl); (focus k_ne); (focus (go_simp; (try simp only [q0]); (try w_num); first | done | exact rfl)); (focus (simp [go_sem, *]; done)); walk_nrm)
  refine GoD.halt fun w h => ⟨rfl, fun v h0 hv hc hz => ?_⟩
  have e1 : IntKind.i64.wrap (v + 1) = v + 1 := by rw [IntKind.wrap_i64]; omega
  refine ⟨_, (stepG_add_atomic rfl rfl (by k_ne) rfl Try.func67 (by kernel_rfl) (by kernel_rfl) x_addI_x .i64 x_addI_f rfl rfl hc hz).trans (by rw [e1]; rfl), 60, ?_⟩
  clear hc hz e1 h0 hv h w
  walk_nrm
  ((with_reducible refine gi_value (v := ?_) (o := ?_) ?_ ?_ ?_ (fun _ _ => ?_) (fun _ _ => ?_) ?_); rotate_left 2; (focus exact rfl); (focus exact rfl); (focus k_ne); (focus (go_simp; (try simp only [q0]); (try w_num); first | done | exact rfl)); (focus (simp [go_sem, *]; done)); walk_nrm)
  (with_reducible apply gi_regend)
  (with_reducible apply gi_ret)
  (refine gi_leave1 rfl rfl Try.func47 rfl ?_; walk_nrm)
  (with_reducible apply gi_regend)
  (with_reducible apply gi_inBlock)
  ((with_reducible apply gi_region); simp only [List.size_toArray, List.length_cons, List.length_nil, Nat.reduceAdd, Nat.zero_add, List.range, List.range.loop])
  ((with_reducible refine gi_value (v := ?_) (o := ?_) ?_ ?_ ?_ (fun _ _ => ?_) (fun _ _ => ?_) ?_); rotate_left 2; (focus exact rfl); (focus exact rfl); (focus k_ne); (focus (go_simp; (try simp only [q0]); (try w_num); first | done | exact rfl)); (focus (simp [go_sem, *]; done)); walk_nrm)
  ((with_reducible refine gi_value (v := ?_) (o := ?_) ?_ ?_ ?_ (fun _ _ => ?_) (fun _ _ => ?_) ?_); rotate_left 2; (focus exact rfl); (focus exact rfl); (focus k_ne); (focus (go_simp; (try simp only [q0]); (try w_num); first | done | exact rfl)); (focus (simp [go_sem, *]; done)); walk_nrm)
  ((with_reducible refine gi_value (v := ?_) (o := ?_) ?_ ?_ ?_ (fun _ _ => ?_) (fun _ _ => ?_) ?_); rotate_left 2; (focus exact rfl); (focus exact rfl); (focus k_ne); (focus (go_simp; (try simp only [q0]); (try w_num); first | done | exact rfl)); (focus (simp [go_sem, *]; done)); walk_nrm)
  (with_reducible apply gi_regend)
  apply gi_inLoop
  exact GoD.halt fun w h => ⟨_, _, _, _, _, _, _, _, _, _, _, _, _, _, _, rfl⟩
end
end Go.Proofs.Ytgfgoflhmikalaa.par

namespace Go.Proofs.Ytgfgoflhmikalaa.par
open Go Go.Conc Go.RowKit Go.Conc.Lib Go.ConcR.Gen Go.ConcN.Gen
open Go.ConcR (stA smA WgAt KK rd wr mk DC0)
set_option linter.unusedVariables false
set_option linter.unusedSimpArgs false
/-- One tree behind another: what is held at the end is held whatever the others do. -/
theorem OT.bind2 {P : Program} {main : Bool} {Env : (Nat → Prop) → World → World → Prop} {Gu : (Nat → Prop) → World → World → Array Event → Prop} {Stop Stop' : (Nat → Prop) → Nat → Goroutine → World → Prop} {O : Nat → Prop} {d : Nat} {g : Goroutine} {w : World}
    (h : OT P main Env Gu Stop O d g w) (hs : ∀ O d g w, (∀ w₁, Env O w w₁ → Stop O d g w₁) → OT P main Env Gu Stop' O d g w) : OT P main Env Gu Stop' O d g w := by
  induction h with
  | stop h => exact hs _ _ _ _ h
  | step hr g' w' es h hg _ ih => exact .step hr g' w' es h hg ih
namespace Par
variable {A : Par}
/-- What one knows of the world while the phase lasts, blocks O0 being one's own. -/
structure Kn (A : Par) (O0 : Nat → Prop) (I : World → Prop) : Prop where
  live : ∀ w, I w → A.Live w
  rely : ∀ O, (∀ b, O0 b → O b) → ∀ w w₁, A.Env O w w₁ → I w → I w₁
  same : ∀ w w', w'.heap = w.heap → w'.tape = w.tape → w'.os = w.os → w'.output = w.output → I w → I w'
  set : ∀ w a u, a.block = A.Wg ∨ a.block = A.wB → I w → A.Live (w.setCell a u) → I (w.setCell a u)
  ne : A.wB ≠ A.Wg
section
variable {O0 : Nat → Prop} {I : World → Prop}
theorem Kn.wg (h : A.Kn O0 I) {w : World} (hI : I w) : ∃ st sm, WgAt A.tW A.Wg w st sm := (h.live w hI).1.1
theorem Kn.setSt (h : A.Kn O0 I) {w : World} (hI : I w) {st sm : Int} (hw : WgAt A.tW A.Wg w st sm) (v : Int) : I (w.setCell (stA A.Wg) (.int .u64 v)) := by
  refine h.set _ _ _ (.inl rfl) hI ⟨⟨⟨_, _, hw.setSt v⟩, ?_⟩, stays_set (h.live w hI).2 (.inl rfl) _⟩
  obtain ⟨v', hv⟩ := (h.live w hI).1.2
  exact ⟨v', (set_other w (stA A.Wg) _ h.ne).trans hv⟩
theorem Kn.setSm (h : A.Kn O0 I) {w : World} (hI : I w) {st sm : Int} (hw : WgAt A.tW A.Wg w st sm) (v : Int) : I (w.setCell (smA A.Wg) (.int .u32 v)) := by
  refine h.set _ _ _ (.inl rfl) hI ⟨⟨⟨_, _, hw.setSm v⟩, ?_⟩, stays_set (h.live w hI).2 (.inl rfl) _⟩
  obtain ⟨v', hv⟩ := (h.live w hI).1.2
  exact ⟨v', (set_other w (smA A.Wg) _ h.ne).trans hv⟩
theorem Kn.setB (h : A.Kn O0 I) {w : World} (hI : I w) {v : Int} (hw : A.WB v w) (v' : Int) : I (w.setCell A.wbA (.int .i64 v')) := by
  refine h.set _ _ _ (.inr rfl) hI ⟨⟨?_, _, WB.set hw v'⟩, stays_set (h.live w hI).2 (.inr rfl) _⟩
  obtain ⟨st, sm, hv⟩ := h.wg hI
  exact ⟨st, sm, hv.of_block (set_other w A.wbA _ fun e => h.ne e.symm)⟩
theorem dc0_quiet {w w' : World} {es : Array Event} (h : DC0 w w' es) : ∀ e ∈ es, e.loc ≠ .mark .disable ∧ e.loc ≠ .mark .enable := by
  obtain ⟨_, rfl⟩ := h
  exact fun e he => absurd he (by simp)
variable {main : Bool} {S : Goroutine → World → Prop} {n : Nat} {g : Goroutine} {O : Nat → Prop} {d : Nat} {w : World}
/-- A silent walk of one who only leaves. -/
theorem Kn.quiet (h : A.Kn O0 I) (hg : GoI A.P false I S n g) (hO : ∀ b, O0 b → O b) (hI : I w) : A.LQ (fun O' d' g w => d' = d ∧ (∀ b, O0 b → O' b) ∧ I w ∧ S g w) O d g w :=
  OT.weaken (fun O' d' g w ⟨a, b, c⟩ => ⟨a, fun x hx => b x (hO x hx), c⟩) (GoD.ot (O0 := O0) hg (EnvT.refl ryA) h.rely (fun w w' es ⟨h1, _⟩ hI => h1 ▸ hI) (fun _ _ _ => dc0_quiet) (fun _ _ _ _ _ ⟨h1, h2⟩ => ⟨h1, by subst h2; exact fun e he => absurd he (by simp)⟩) hO hI)
theorem Kn.gut {Sh : Nat → Prop} {z : Prop} {w w' : World} {es : Array Event} (h : DC0 w w' es) : GuT A.Rd Sh z O w w' es := by
  obtain ⟨rfl, rfl⟩ := h
  exact ⟨rfl, rfl, rfl, Nat.le_refl _, fun _ _ _ => rfl, fun e he => absurd he (by simp)⟩
/-- A silent walk of the starter. -/
theorem Kn.first (h : A.Kn O0 I) (hg : GoI A.P true I S n g) (hO : ∀ b, O0 b → O b) (hI : I w) : A.LM (fun O' d' g w => d' = d ∧ (∀ b, O b → O' b) ∧ I w ∧ S g w) O d g w :=
  GoD.ot (O0 := O0) hg (EnvT.refl ryA) h.rely (fun w w' es ⟨h1, _⟩ hI => h1 ▸ hI) (fun _ _ _ => dc0_quiet) (fun _ _ _ _ _ hd => Kn.gut hd) hO hI
/-- A walk that looks. -/
theorem Kn.looks {fb : Nat} (h : A.Kn O0 I) (hfb : O0 fb) (hg : GoD A.P main I (DL A.Rd fb) S n g) (z : Prop) (hO : ∀ b, O0 b → O b) (hI : I w) : OT A.P main A.Env (GuT A.Rd A.Sh z) (fun O' d' g w => d' = d ∧ (∀ b, O b → O' b) ∧ I w ∧ S g w) O d g w :=
  GoD.ot (O0 := O0) hg (EnvT.refl ryA) h.rely (fun w w' es hd hI => h.same _ _ hd.heap hd.tape hd.os hd.output hI) (fun _ _ _ hd => hd.mute) (fun O hO _ _ _ hd => hd.gu O (hO _ hfb)) hO hI
/-! ### the worker's last words -/
theorem Kn.d4 (h : A.Kn O0 I) (hs : N5 A.P A.tW A.Wg g w) : A.D4 O 1 g w := ⟨rfl, hs⟩
theorem Kn.d3 (h : A.Kn O0 I) (hO : ∀ b, O0 b → O b) (hI : I w) (hs : N4 A.P I A.tW A.Wg g w) : A.D3 O 1 g w := by
  refine ⟨rfl, hs.1, fun hw => ?_⟩
  obtain ⟨g', h1, m, h2⟩ := hs.2 hw
  exact ⟨g', h1, OT.weaken (fun O' d' g w ⟨a, b, c, e⟩ => by subst a; exact h.d4 e) (h.quiet h2 hO (h.setSt hI hw 0))⟩
theorem Kn.d2 (h : A.Kn O0 I) (hO : ∀ b, O0 b → O b) (hI : I w) (hs : N3 A.P I A.tW A.Wg g w) : A.D2 O 1 g w := by
  refine ⟨rfl, hs.1, fun hw => ?_⟩
  obtain ⟨g', h1, m, h2⟩ := hs.2 hw
  exact ⟨g', h1, OT.weaken (fun O' d' g w ⟨a, b, c, e⟩ => by subst a; exact h.d3 b c e) (h.quiet h2 hO hI)⟩
theorem Kn.d1 (h : A.Kn O0 I) (hO : ∀ b, O0 b → O b) (hI : I w) (hs : N2 A.P I A.tW A.Wg (N3 A.P I A.tW A.Wg) g w) : A.D1 O 1 g w := by
  refine ⟨rfl, hs.1, fun v wt hwt hv hw => ?_⟩
  obtain ⟨g', h1, h2, h3⟩ := hs.2 v wt hwt hv hw
  refine ⟨g', h1, fun hz => ?_, h3⟩
  obtain ⟨m, h4⟩ := h2 hz
  exact OT.weaken (fun O' d' g w ⟨a, b, c, e⟩ => by subst a; exact h.d2 b c e) (h.quiet h4 hO (h.setSt hI hw _))
theorem deaf_dis : deafBehind 0 #[Go.ConcR.mk .disable] = 1 := rfl
theorem Kn.rel (h : A.Kn O0 I) (hO : ∀ b, O0 b → O b) (hI : I w) (hs : par.N0 A.P I A.Wg (N2 A.P I A.tW A.Wg (N3 A.P I A.tW A.Wg)) g w) {k r : Nat} (hr : r = A.bnd ↔ A.gd k) : A.Rel k r O 0 g w := by
  obtain ⟨h0, g', h1, m, h2⟩ := hs
  refine ⟨rfl, h0, hr, g', h1, OT.bind2 (h.quiet h2 hO hI) fun O' d' g w hall => ?_⟩
  refine OT.mk (hall w (EnvT.refl ryA _ _)).2.2.2.1 fun w₁ he => ?_
  obtain ⟨a, b, c, _, g2, e2, m2, e3⟩ := hall w₁ he
  subst a
  refine ⟨g2, w₁, _, e2, ⟨rfl, fun e he => by simp [Go.ConcR.mk] at he; subst he; rfl⟩, ?_⟩
  rw [deaf_dis]
  exact OT.weaken (fun O' d' g w ⟨a, b, c, e⟩ => by subst a; exact h.d1 b c e) (h.quiet e3 (fun x hx => .inl (b x hx)) c)
theorem own_of_rel {k : Nat} : ∀ {r : Nat}, A.Rel k r O d g w → A.Own k r O d g w
  | 0, h => h
  | _ + 1, h => .inl h
/-! ### the starter's -/
theorem Kn.lead (h : A.Kn O0 I) (hO : ∀ b, O0 b → O b) (hI : I w) {e : Event} (he : (∃ a, e = Go.ConcR.mk (.read a) ∧ A.Sh a.block) ∨ (∃ a, e = Go.ConcR.mk (.write a) ∧ A.Sh a.block) ∨ e = Go.ConcR.mk .enable ∨ e = Go.ConcR.mk .disable) {Z : (Nat → Prop) → Nat → Goroutine → World → Prop}
    (hS : GoI A.P true I (Q3 A.P I e S) n g) (hZ : ∀ O' g w, (∀ b, O b → O' b) → I w → S g w → Z O' (deafBehind d #[e]) g w) : A.LM Z O d g w := by
  refine OT.bind2 (h.first hS hO hI) fun O' d' g w hall => ?_
  refine OT.mk (hall w (EnvT.refl ryA _ _)).2.2.2.1 fun w₁ hw₁ => ?_
  obtain ⟨a, b, c, _, g2, e2, m2, e3⟩ := hall w₁ hw₁
  subst a
  refine ⟨g2, w₁, _, e2, ⟨rfl, rfl, rfl, Nat.le_refl _, fun _ _ _ => rfl, fun x hx => ?_⟩, ?_⟩
  · rw [Array.mem_singleton] at hx
    subst hx
    rcases he with ⟨a, rfl, ha⟩ | ⟨a, rfl, ha⟩ | rfl | rfl
    · exact .inr (.inr ⟨rfl, .inl ⟨a, rfl, ha⟩⟩)
    · exact .inr (.inr ⟨rfl, .inr ⟨a, rfl, ha⟩⟩)
    · exact .inl trivial
    · exact .inl trivial
  · exact OT.weaken (fun O'' d' g w ⟨a, b', c, e⟩ => by subst a; exact hZ _ _ _ (fun x hx => b' x (.inl (b x hx))) c e) (h.first e3 (fun x hx => .inl (b x (hO x hx))) c)
end
end Par
end Go.Proofs.Ytgfgoflhmikalaa.par

namespace Go.Proofs.Ytgfgoflhmikalaa.par
open Go Go.Conc
open Go.ConcR (rd wr mk DC0)
set_option linter.unusedVariables false
set_option linter.unusedSimpArgs false
section
variable {σ : Nat → Nat} {D : Nat → Prop} {T : Tables} {W0 u w : World}
/-- What the lone run makes and does not name. -/
theorem Sit.garbage (h : Sit σ D T W0 u w) (o : Obj) : Sit σ D T W0 (u.alloc o) w := by
  have hsz : (u.alloc o).heap.size = u.heap.size + 1 := by
    show (u.heap.push _).size = _
    simp
  have hold : ∀ r, D r → (u.alloc o).heap[r]? = u.heap[r]? := fun r hr => by
    have := h.bound r hr
    show (u.heap.push _)[r]? = _
    rw [Array.getElem?_push, if_neg (by omega)]
  refine ⟨⟨fun r o' hr ho => h.wr.obj r o' hr (by rw [← hold r hr]; exact ho), fun r hr hle => ?_, by have := h.wr.low; omega, fun a ha hlt z hz hc => h.wr.orig a ha hlt z hz ?_⟩, h.inj, h.glob, fun r hr => by have := h.bound r hr; omega, by have := h.gu; omega, h.gw⟩
  · have := h.bound r hr; omega
  · rw [← hc]
    unfold World.cell?
    rw [hold _ ha]
/-- The same number is laid in both. -/
theorem Sit.both (h : Sit σ D T W0 u w) {ad ad' : Addr} (ha : AR σ D ad ad') {v : Value} (hc : u.cell? ad = some v) (k : IntKind) (n : Int) : Sit σ D T W0 (u.setCell ad (.int k n)) (w.setCell ad' (.int k n)) := by
  have s1 : (u.setCell ad (.int k n)).heap.size = u.heap.size := by simp [World.setCell]
  have s2 : (w.setCell ad' (.int k n)).heap.size = w.heap.size := by simp [World.setCell]
  refine ⟨h.wr.set h.inj ha (.int k n) ?_, h.inj, h.glob, fun r hr => by rw [s1]; exact h.bound r hr, by rw [s1]; exact h.gu, by rw [s2]; exact h.gw⟩
  exact rfl
/-- What the lone cell holds the crowd's holds. -/
theorem Sit.num (h : Sit σ D T W0 u w) {ad ad' : Addr} (ha : AR σ D ad ad') {k : IntKind} {n : Int} (hc : u.cell? ad = some (.int k n)) : w.cell? ad' = some (.int k n) ∧ w.frozen? ad' = u.frozen? ad := by
  obtain ⟨hd, rfl⟩ := ha
  unfold World.cell? at hc
  cases ho : u.heap[ad.block]? with
  | none => rw [ho] at hc; simp at hc
  | some o =>
    obtain ⟨o', h1, h2⟩ := h.wr.obj _ o hd ho
    rw [ho] at hc
    cases h2 with
    | @cells c c' hcc e f =>
      dsimp only at hc
      split at hc
      · cases hc
      · rename_i hs
        have hs' : ad.spot.isSome = false := by simpa using hs
        have hlt : ad.off < c.size := (Array.getElem?_eq_some_iff.1 hc).1
        have hlt' : ad.off < c'.size := by rw [← hcc.1]; exact hlt
        have hv := hcc.2 ad.off _ c'[ad.off] hc (Array.getElem?_eq_getElem hlt')
        have e1 : c'[ad.off] = .int k n := by
          revert hv
          generalize c'[ad.off] = y
          intro hv
          cases hv
          rfl
        refine ⟨?_, ?_⟩
        · unfold World.cell?
          dsimp only
          rw [h1]
          dsimp only
          rw [hs', if_neg (by simp), Array.getElem?_eq_getElem hlt', e1]
        · unfold World.frozen?
          dsimp only
          rw [h1, ho]
    | view => simp at hc
    | number => simp at hc
theorem Sit.tame (h : Sit σ D T W0 u w) {r : Nat} (hr : D r) : Tame u r := by
  obtain ⟨o, ho⟩ : ∃ o, u.heap[r]? = some o := ⟨_, Array.getElem?_eq_getElem (h.bound r hr)⟩
  obtain ⟨o', _, h2⟩ := h.wr.obj r _ hr ho
  unfold Tame
  cases h2 with
  | cells _ e f => exact .inl ⟨_, _, _, ho⟩
  | view _ t => exact .inr (.inl ⟨_, _, ho⟩)
  | number _ l => exact .inr (.inr ⟨_, _, ho⟩)
end
/-! ### the lone frames -/
theorem lone_of (H : Code) {i : FuncId} {f : Func} (h : (Try.prog).funcs[i]? = some f) : (loneF H)[i]? = some (lf H (Try.prog).toTables i f) := by
  unfold loneF
  rw [Array.getElem?_mapIdx, h]
  rfl
theorem pr_mux (x y : Int) : pr (Try.prog).toTables (muxBody x y) = muxBody x y := by kernel_rfl
theorem lone_lock (H : Code) : (loneF H)[91]? = some { Try.f91 with body := some (muxBody 0 1) } := by
  rw [lone_of H Try.func91]
  have e : lf H (Try.prog).toTables 91 Try.f91 = { Try.f91 with body := some (pr (Try.prog).toTables (muxBody 0 1)) } := rfl
  rw [e, pr_mux]
theorem lone_unlock (H : Code) : (loneF H)[92]? = some { Try.f92 with body := some (muxBody 1 0) } := by
  rw [lone_of H Try.func92]
  have e : lf H (Try.prog).toTables 92 Try.f92 = { Try.f92 with body := some (pr (Try.prog).toTables (muxBody 1 0)) } := rfl
  rw [e, pr_mux]
/-- A frame of function f. -/
def bK (f : FuncId) (kind : CallKind) : Frame := { (default : Frame) with fn := f, kind := kind }
theorem enter_K {P : Program} {f : FuncId} {fn : Func} {c : Code} (hf : P.funcs[f]? = some fn) (hb : fn.body = some c) (a : Array Value) (kind : CallKind) : Frame.enter P f a kind = (bK f kind).at ⟨a ++ Array.replicate (fn.ntmps - a.size) undef, []⟩ [.code c] := by
  unfold Frame.enter
  simp [hf, hb, bK, Frame.at]
/-- The lone frame is left. -/
theorem come_leave {P : Program} {tl : List Frame} {R : FuncId → Value → World → Prop} {s0 : LS} {b c : Frame} {T : Array Value} {todo : List Item} {cs : List Frame} {u : World} {fn : Func} (hk : b.kind = .normal) (hf : P.funcs[b.fn]? = some fn) (hr : fn.results = #[])
    (h : Come P tl R s0 { b.at ⟨T, []⟩ todo with mode := .returning } (c :: cs) u) : Come P tl R s0 (c.finish (.tuple #[])) cs u := by
  have hn : ¬ AtEndL { b.at ⟨T, []⟩ todo with mode := .returning } (c :: cs) := fun x => by cases x.1
  have hs : ∀ τ, stepG P true (G { b.at ⟨T, []⟩ todo with mode := .returning } ((c :: cs) ++ tl)) (tp u τ) = .go (G (c.finish (.tuple #[])) (cs ++ tl)) (tp u τ) #[] := fun τ =>
    stepG_leave hk rfl hf (results_none hr _ P _) (events_results_none hr _ _)
  exact ⟨h.lt.go hn (Nat.le_refl _) hs, .inr (h.desc.elim (fun e => e ▸ .single (desc_go hn (Nat.le_refl _) hs)) fun x => .trans (.single (desc_go hn (Nat.le_refl _) hs)) x)⟩
end Go.Proofs.Ytgfgoflhmikalaa.par
