/- Part 25 of what the proofs stand on: lemmas on worlds, on goroutines, contracts of functions. No conditions. -/
import Derived.Test.YtgfgoflhmikalaaM24
namespace Go.Proofs.Ytgfgoflhmikalaa.par
open Go Go.Conc
set_option linter.unusedVariables false
set_option linter.unusedSimpArgs false
def good (T : Tables) : Code → Bool
  | .skip | .ret | .label _ | .exit _ | .refuse _ => true
  | .region _ ops _ => ops.all fun o => okOp T o.op
  | .seq a b => good T a && good T b
  | .cond c a b => okOpd c && good T a && good T b
  | .block _ a | .loop a | .scope a => good T a
  | _ => false
theorem pr_good (T : Tables) : ∀ c : Code, good T c = true → pr T c = c := by
  intro c
  induction c with
  | skip => exact fun _ => rfl
  | ret => exact fun _ => rfl
  | label l => exact fun _ => rfl
  | exit id => exact fun _ => rfl
  | refuse m => exact fun _ => rfl
  | region id ops draw =>
    intro h
    unfold good at h
    unfold pr
    rw [if_pos h]
  | seq a b ha hb =>
    intro h
    unfold good at h
    rw [Bool.and_eq_true] at h
    unfold pr
    rw [ha h.1, hb h.2]
  | cond c a b ha hb =>
    intro h
    unfold good at h
    rw [Bool.and_eq_true, Bool.and_eq_true] at h
    unfold pr
    rw [if_pos h.1.1, ha h.1.2, hb h.2]
  | block id a ha =>
    intro h
    unfold good at h
    unfold pr
    rw [ha h]
  | loop a ha =>
    intro h
    unfold good at h
    unfold pr
    rw [ha h]
  | scope a ha =>
    intro h
    unfold good at h
    unfold pr
    rw [ha h]
  | _ => intro h; cases h
def gd (T : Tables) (f : Func) : Bool := match f.body with | some c => good T c | none => false
def own (i : FuncId) : Bool := i != 33 && i != 91 && i != 92 && i != 44
theorem funcs_mk (T : Tables) (F : Array Func) : (⟨T, F⟩ : Program).funcs = F := rfl
theorem lone_funcs {H : Code} : (loneP H).funcs = loneF H := by
  unfold loneP
  exact funcs_mk _ _
theorem lone_same {H : Code} {i : FuncId} {f : Func} (h : (Try.prog).funcs[i]? = some f) (hg : gd (Try.prog).toTables f = true) (hi : own i = true) : (loneP H).funcs[i]? = some f := by
  rw [lone_funcs, lone_of H h]
  unfold own at hi
  simp only [Bool.and_eq_true, bne_iff_ne, ne_eq] at hi
  obtain ⟨⟨⟨h1, h2⟩, h3⟩, h4⟩ := hi
  unfold gd at hg
  cases hb : f.body with
  | none => rw [hb] at hg; cases hg
  | some c =>
    rw [hb] at hg
    have e : lf H (Try.prog).toTables i f = { f with body := some (pr (Try.prog).toTables c) } := by
      unfold lf bodyOf
      rw [hb]
      dsimp only
      rw [if_neg h1, if_neg h2, if_neg h3, if_neg h4]
    rw [e, pr_good _ c hg, ← hb]
theorem lone_ext {H : Code} {i : FuncId} {f : Func} (h : (Try.prog).funcs[i]? = some f) (hb : f.body = none) (hi : i ∈ served) : (loneP H).funcs[i]? = some f := by
  rw [lone_funcs, lone_of H h]
  unfold lf
  rw [hb]
  simp [hi]
theorem lone_any (H : Code) {i : FuncId} {f : Func} {c : Code} (h : (Try.prog).funcs[i]? = some f) (hb : f.body = some c) : (loneP H).funcs[i]? = some { f with body := some (pr (Try.prog).toTables (bodyOf H i c)) } := by
  rw [lone_funcs, lone_of H h]
  unfold lf
  rw [hb]
theorem call_of {P : Program} {i : FuncId} {f : Func} (h : P.funcs[i]? = some f) (hn : (f.name == "runtime.NumGoroutine") = false) (hb : f.body.isSome = true) (args : Array Value) (w : World) : Sem.run P (callFunc i args) w = .ok (.enter i args) w := by
  obtain ⟨c, hc⟩ := Option.isSome_iff_exists.1 hb
  have h1 : ¬ f.name = "runtime.NumGoroutine" := by simpa using hn
  simp [callFunc, h, h1, hc]
theorem tab_typeInfo (T : Tables) (F F' : Array Func) (t : TypeId) (w : World) : Sem.run (⟨T, F⟩ : Program) (typeInfo t) w = Sem.run (⟨T, F'⟩ : Program) (typeInfo t) w := by
  cases h : (⟨T, F⟩ : Program).info? t with
  | none => simp [typeInfo, h, show (⟨T, F'⟩ : Program).info? t = none from h]
  | some d => simp [typeInfo, h, show (⟨T, F'⟩ : Program).info? t = some d from h]
@[go_sem] theorem lon_typeInfo {H : Code} (t : TypeId) (w : World) : Sem.run (loneP H) (typeInfo t) w = Sem.run Try.prog (typeInfo t) w := tab_typeInfo _ _ _ t w
set_option maxRecDepth 100000
-- not its own: 0 main.main
-- not its own: 1 gosem.cut
@[go_sem] theorem lcall2 {H : Code} (args : Array Value) (w : World) : Sem.run (loneP H) (callFunc 2 args) w = .ok (.enter 2 args) w := call_of (lone_same Try.func2 (by kernel_rfl) (by decide)) (by kernel_rfl) (by kernel_rfl) args w
@[go_sem] theorem lfun2 {H : Code} : (loneP H).funcs[2]? = some Try.f2 := lone_same Try.func2 (by kernel_rfl) (by decide)
@[go_sem] theorem lcall3 {H : Code} (args : Array Value) (w : World) : Sem.run (loneP H) (callFunc 3 args) w = .ok (.enter 3 args) w := call_of (lone_same Try.func3 (by kernel_rfl) (by decide)) (by kernel_rfl) (by kernel_rfl) args w
@[go_sem] theorem lfun3 {H : Code} : (loneP H).funcs[3]? = some Try.f3 := lone_same Try.func3 (by kernel_rfl) (by decide)
@[go_sem] theorem lcall4 {H : Code} (args : Array Value) (w : World) : Sem.run (loneP H) (callFunc 4 args) w = .ok (.enter 4 args) w := call_of (lone_same Try.func4 (by kernel_rfl) (by decide)) (by kernel_rfl) (by kernel_rfl) args w
@[go_sem] theorem lfun4 {H : Code} : (loneP H).funcs[4]? = some Try.f4 := lone_same Try.func4 (by kernel_rfl) (by decide)
@[go_sem] theorem lcall5 {H : Code} (args : Array Value) (w : World) : Sem.run (loneP H) (callFunc 5 args) w = .ok (.enter 5 args) w := call_of (lone_same Try.func5 (by kernel_rfl) (by decide)) (by kernel_rfl) (by kernel_rfl) args w
@[go_sem] theorem lfun5 {H : Code} : (loneP H).funcs[5]? = some Try.f5 := lone_same Try.func5 (by kernel_rfl) (by decide)
@[go_sem] theorem lcall6 {H : Code} (args : Array Value) (w : World) : Sem.run (loneP H) (callFunc 6 args) w = .ok (.enter 6 args) w := call_of (lone_same Try.func6 (by kernel_rfl) (by decide)) (by kernel_rfl) (by kernel_rfl) args w
@[go_sem] theorem lfun6 {H : Code} : (loneP H).funcs[6]? = some Try.f6 := lone_same Try.func6 (by kernel_rfl) (by decide)
@[go_sem] theorem lcall7 {H : Code} (args : Array Value) (w : World) : Sem.run (loneP H) (callFunc 7 args) w = .ok (.enter 7 args) w := call_of (lone_same Try.func7 (by kernel_rfl) (by decide)) (by kernel_rfl) (by kernel_rfl) args w
@[go_sem] theorem lfun7 {H : Code} : (loneP H).funcs[7]? = some Try.f7 := lone_same Try.func7 (by kernel_rfl) (by decide)
@[go_sem] theorem lcall8 {H : Code} (args : Array Value) (w : World) : Sem.run (loneP H) (callFunc 8 args) w = .ok (.enter 8 args) w := call_of (lone_same Try.func8 (by kernel_rfl) (by decide)) (by kernel_rfl) (by kernel_rfl) args w
@[go_sem] theorem lfun8 {H : Code} : (loneP H).funcs[8]? = some Try.f8 := lone_same Try.func8 (by kernel_rfl) (by decide)
@[go_sem] theorem lcall9 {H : Code} (args : Array Value) (w : World) : Sem.run (loneP H) (callFunc 9 args) w = .ok (.enter 9 args) w := call_of (lone_same Try.func9 (by kernel_rfl) (by decide)) (by kernel_rfl) (by kernel_rfl) args w
@[go_sem] theorem lfun9 {H : Code} : (loneP H).funcs[9]? = some Try.f9 := lone_same Try.func9 (by kernel_rfl) (by decide)
@[go_sem] theorem lcall10 {H : Code} (args : Array Value) (w : World) : Sem.run (loneP H) (callFunc 10 args) w = .ok (.enter 10 args) w := call_of (lone_same Try.func10 (by kernel_rfl) (by decide)) (by kernel_rfl) (by kernel_rfl) args w
@[go_sem] theorem lfun10 {H : Code} : (loneP H).funcs[10]? = some Try.f10 := lone_same Try.func10 (by kernel_rfl) (by decide)
@[go_sem] theorem lcall11 {H : Code} (args : Array Value) (w : World) : Sem.run (loneP H) (callFunc 11 args) w = .ok (.enter 11 args) w := call_of (lone_same Try.func11 (by kernel_rfl) (by decide)) (by kernel_rfl) (by kernel_rfl) args w
@[go_sem] theorem lfun11 {H : Code} : (loneP H).funcs[11]? = some Try.f11 := lone_same Try.func11 (by kernel_rfl) (by decide)
@[go_sem] theorem lcall12 {H : Code} (args : Array Value) (w : World) : Sem.run (loneP H) (callFunc 12 args) w = .ok (.enter 12 args) w := call_of (lone_same Try.func12 (by kernel_rfl) (by decide)) (by kernel_rfl) (by kernel_rfl) args w
@[go_sem] theorem lfun12 {H : Code} : (loneP H).funcs[12]? = some Try.f12 := lone_same Try.func12 (by kernel_rfl) (by decide)
@[go_sem] theorem lcall13 {H : Code} (args : Array Value) (w : World) : Sem.run (loneP H) (callFunc 13 args) w = .ok (.enter 13 args) w := call_of (lone_same Try.func13 (by kernel_rfl) (by decide)) (by kernel_rfl) (by kernel_rfl) args w
@[go_sem] theorem lfun13 {H : Code} : (loneP H).funcs[13]? = some Try.f13 := lone_same Try.func13 (by kernel_rfl) (by decide)
@[go_sem] theorem lcall14 {H : Code} (args : Array Value) (w : World) : Sem.run (loneP H) (callFunc 14 args) w = .ok (.enter 14 args) w := call_of (lone_same Try.func14 (by kernel_rfl) (by decide)) (by kernel_rfl) (by kernel_rfl) args w
@[go_sem] theorem lfun14 {H : Code} : (loneP H).funcs[14]? = some Try.f14 := lone_same Try.func14 (by kernel_rfl) (by decide)
@[go_sem] theorem lcall15 {H : Code} (args : Array Value) (w : World) : Sem.run (loneP H) (callFunc 15 args) w = .ok (.enter 15 args) w := call_of (lone_same Try.func15 (by kernel_rfl) (by decide)) (by kernel_rfl) (by kernel_rfl) args w
@[go_sem] theorem lfun15 {H : Code} : (loneP H).funcs[15]? = some Try.f15 := lone_same Try.func15 (by kernel_rfl) (by decide)
@[go_sem] theorem lcall16 {H : Code} (args : Array Value) (w : World) : Sem.run (loneP H) (callFunc 16 args) w = .ok (.enter 16 args) w := call_of (lone_same Try.func16 (by kernel_rfl) (by decide)) (by kernel_rfl) (by kernel_rfl) args w
@[go_sem] theorem lfun16 {H : Code} : (loneP H).funcs[16]? = some Try.f16 := lone_same Try.func16 (by kernel_rfl) (by decide)
@[go_sem] theorem lcall17 {H : Code} (args : Array Value) (w : World) : Sem.run (loneP H) (callFunc 17 args) w = .ok (.enter 17 args) w := call_of (lone_same Try.func17 (by kernel_rfl) (by decide)) (by kernel_rfl) (by kernel_rfl) args w
@[go_sem] theorem lfun17 {H : Code} : (loneP H).funcs[17]? = some Try.f17 := lone_same Try.func17 (by kernel_rfl) (by decide)
@[go_sem] theorem lcall18 {H : Code} (args : Array Value) (w : World) : Sem.run (loneP H) (callFunc 18 args) w = .ok (.enter 18 args) w := call_of (lone_same Try.func18 (by kernel_rfl) (by decide)) (by kernel_rfl) (by kernel_rfl) args w
@[go_sem] theorem lfun18 {H : Code} : (loneP H).funcs[18]? = some Try.f18 := lone_same Try.func18 (by kernel_rfl) (by decide)
@[go_sem] theorem lcall19 {H : Code} (args : Array Value) (w : World) : Sem.run (loneP H) (callFunc 19 args) w = .ok (.enter 19 args) w := call_of (lone_same Try.func19 (by kernel_rfl) (by decide)) (by kernel_rfl) (by kernel_rfl) args w
@[go_sem] theorem lfun19 {H : Code} : (loneP H).funcs[19]? = some Try.f19 := lone_same Try.func19 (by kernel_rfl) (by decide)
@[go_sem] theorem lcall20 {H : Code} (args : Array Value) (w : World) : Sem.run (loneP H) (callFunc 20 args) w = .ok (.enter 20 args) w := call_of (lone_same Try.func20 (by kernel_rfl) (by decide)) (by kernel_rfl) (by kernel_rfl) args w
@[go_sem] theorem lfun20 {H : Code} : (loneP H).funcs[20]? = some Try.f20 := lone_same Try.func20 (by kernel_rfl) (by decide)
@[go_sem] theorem lcall21 {H : Code} (args : Array Value) (w : World) : Sem.run (loneP H) (callFunc 21 args) w = .ok (.enter 21 args) w := call_of (lone_same Try.func21 (by kernel_rfl) (by decide)) (by kernel_rfl) (by kernel_rfl) args w
@[go_sem] theorem lfun21 {H : Code} : (loneP H).funcs[21]? = some Try.f21 := lone_same Try.func21 (by kernel_rfl) (by decide)
@[go_sem] theorem lcall22 {H : Code} (args : Array Value) (w : World) : Sem.run (loneP H) (callFunc 22 args) w = .ok (.enter 22 args) w := call_of (lone_same Try.func22 (by kernel_rfl) (by decide)) (by kernel_rfl) (by kernel_rfl) args w
@[go_sem] theorem lfun22 {H : Code} : (loneP H).funcs[22]? = some Try.f22 := lone_same Try.func22 (by kernel_rfl) (by decide)
@[go_sem] theorem lcall23 {H : Code} (args : Array Value) (w : World) : Sem.run (loneP H) (callFunc 23 args) w = .ok (.enter 23 args) w := call_of (lone_same Try.func23 (by kernel_rfl) (by decide)) (by kernel_rfl) (by kernel_rfl) args w
@[go_sem] theorem lfun23 {H : Code} : (loneP H).funcs[23]? = some Try.f23 := lone_same Try.func23 (by kernel_rfl) (by decide)
@[go_sem] theorem lcall24 {H : Code} (args : Array Value) (w : World) : Sem.run (loneP H) (callFunc 24 args) w = .ok (.enter 24 args) w := call_of (lone_same Try.func24 (by kernel_rfl) (by decide)) (by kernel_rfl) (by kernel_rfl) args w
@[go_sem] theorem lfun24 {H : Code} : (loneP H).funcs[24]? = some Try.f24 := lone_same Try.func24 (by kernel_rfl) (by decide)
@[go_sem] theorem lcall25 {H : Code} (args : Array Value) (w : World) : Sem.run (loneP H) (callFunc 25 args) w = .ok (.enter 25 args) w := call_of (lone_same Try.func25 (by kernel_rfl) (by decide)) (by kernel_rfl) (by kernel_rfl) args w
@[go_sem] theorem lfun25 {H : Code} : (loneP H).funcs[25]? = some Try.f25 := lone_same Try.func25 (by kernel_rfl) (by decide)
@[go_sem] theorem lcall26 {H : Code} (args : Array Value) (w : World) : Sem.run (loneP H) (callFunc 26 args) w = .ok (.enter 26 args) w := call_of (lone_same Try.func26 (by kernel_rfl) (by decide)) (by kernel_rfl) (by kernel_rfl) args w
@[go_sem] theorem lfun26 {H : Code} : (loneP H).funcs[26]? = some Try.f26 := lone_same Try.func26 (by kernel_rfl) (by decide)
@[go_sem] theorem lcall27 {H : Code} (args : Array Value) (w : World) : Sem.run (loneP H) (callFunc 27 args) w = .ok (.enter 27 args) w := call_of (lone_same Try.func27 (by kernel_rfl) (by decide)) (by kernel_rfl) (by kernel_rfl) args w
@[go_sem] theorem lfun27 {H : Code} : (loneP H).funcs[27]? = some Try.f27 := lone_same Try.func27 (by kernel_rfl) (by decide)
@[go_sem] theorem lcall28 {H : Code} (args : Array Value) (w : World) : Sem.run (loneP H) (callFunc 28 args) w = .ok (.enter 28 args) w := call_of (lone_same Try.func28 (by kernel_rfl) (by decide)) (by kernel_rfl) (by kernel_rfl) args w
@[go_sem] theorem lfun28 {H : Code} : (loneP H).funcs[28]? = some Try.f28 := lone_same Try.func28 (by kernel_rfl) (by decide)
@[go_sem] theorem lcall29 {H : Code} (args : Array Value) (w : World) : Sem.run (loneP H) (callFunc 29 args) w = .ok (.enter 29 args) w := call_of (lone_same Try.func29 (by kernel_rfl) (by decide)) (by kernel_rfl) (by kernel_rfl) args w
@[go_sem] theorem lfun29 {H : Code} : (loneP H).funcs[29]? = some Try.f29 := lone_same Try.func29 (by kernel_rfl) (by decide)
@[go_sem] theorem lcall30 {H : Code} (args : Array Value) (w : World) : Sem.run (loneP H) (callFunc 30 args) w = .ok (.enter 30 args) w := call_of (lone_same Try.func30 (by kernel_rfl) (by decide)) (by kernel_rfl) (by kernel_rfl) args w
@[go_sem] theorem lfun30 {H : Code} : (loneP H).funcs[30]? = some Try.f30 := lone_same Try.func30 (by kernel_rfl) (by decide)
@[go_sem] theorem lcall31 {H : Code} (args : Array Value) (w : World) : Sem.run (loneP H) (callFunc 31 args) w = .ok (.enter 31 args) w := call_of (lone_same Try.func31 (by kernel_rfl) (by decide)) (by kernel_rfl) (by kernel_rfl) args w
@[go_sem] theorem lfun31 {H : Code} : (loneP H).funcs[31]? = some Try.f31 := lone_same Try.func31 (by kernel_rfl) (by decide)
@[go_sem] theorem lcall32 {H : Code} (args : Array Value) (w : World) : Sem.run (loneP H) (callFunc 32 args) w = .ok (.enter 32 args) w := call_of (lone_same Try.func32 (by kernel_rfl) (by decide)) (by kernel_rfl) (by kernel_rfl) args w
@[go_sem] theorem lfun32 {H : Code} : (loneP H).funcs[32]? = some Try.f32 := lone_same Try.func32 (by kernel_rfl) (by decide)
@[go_sem] theorem lcall33 {H : Code} (args : Array Value) (w : World) : Sem.run (loneP H) (callFunc 33 args) w = .ok (.enter 33 args) w := call_of (lone_any H Try.func33 rfl) (by kernel_rfl) rfl args w
@[go_sem] theorem lcall34 {H : Code} (args : Array Value) (w : World) : Sem.run (loneP H) (callFunc 34 args) w = .ok (.enter 34 args) w := call_of (lone_same Try.func34 (by kernel_rfl) (by decide)) (by kernel_rfl) (by kernel_rfl) args w
@[go_sem] theorem lfun34 {H : Code} : (loneP H).funcs[34]? = some Try.f34 := lone_same Try.func34 (by kernel_rfl) (by decide)
@[go_sem] theorem lcall35 {H : Code} (args : Array Value) (w : World) : Sem.run (loneP H) (callFunc 35 args) w = .ok (.enter 35 args) w := call_of (lone_same Try.func35 (by kernel_rfl) (by decide)) (by kernel_rfl) (by kernel_rfl) args w
@[go_sem] theorem lfun35 {H : Code} : (loneP H).funcs[35]? = some Try.f35 := lone_same Try.func35 (by kernel_rfl) (by decide)
@[go_sem] theorem lcall36 {H : Code} (args : Array Value) (w : World) : Sem.run (loneP H) (callFunc 36 args) w = .ok (.enter 36 args) w := call_of (lone_same Try.func36 (by kernel_rfl) (by decide)) (by kernel_rfl) (by kernel_rfl) args w
@[go_sem] theorem lfun36 {H : Code} : (loneP H).funcs[36]? = some Try.f36 := lone_same Try.func36 (by kernel_rfl) (by decide)
@[go_sem] theorem lcall37 {H : Code} (args : Array Value) (w : World) : Sem.run (loneP H) (callFunc 37 args) w = .ok (.enter 37 args) w := call_of (lone_same Try.func37 (by kernel_rfl) (by decide)) (by kernel_rfl) (by kernel_rfl) args w
@[go_sem] theorem lfun37 {H : Code} : (loneP H).funcs[37]? = some Try.f37 := lone_same Try.func37 (by kernel_rfl) (by decide)
@[go_sem] theorem lcall38 {H : Code} (args : Array Value) (w : World) : Sem.run (loneP H) (callFunc 38 args) w = .ok (.enter 38 args) w := call_of (lone_same Try.func38 (by kernel_rfl) (by decide)) (by kernel_rfl) (by kernel_rfl) args w
@[go_sem] theorem lfun38 {H : Code} : (loneP H).funcs[38]? = some Try.f38 := lone_same Try.func38 (by kernel_rfl) (by decide)
@[go_sem] theorem lcall39 {H : Code} (args : Array Value) (w : World) : Sem.run (loneP H) (callFunc 39 args) w = .ok (.enter 39 args) w := call_of (lone_same Try.func39 (by kernel_rfl) (by decide)) (by kernel_rfl) (by kernel_rfl) args w
@[go_sem] theorem lfun39 {H : Code} : (loneP H).funcs[39]? = some Try.f39 := lone_same Try.func39 (by kernel_rfl) (by decide)
@[go_sem] theorem lcall40 {H : Code} (args : Array Value) (w : World) : Sem.run (loneP H) (callFunc 40 args) w = .ok (.enter 40 args) w := call_of (lone_same Try.func40 (by kernel_rfl) (by decide)) (by kernel_rfl) (by kernel_rfl) args w
@[go_sem] theorem lfun40 {H : Code} : (loneP H).funcs[40]? = some Try.f40 := lone_same Try.func40 (by kernel_rfl) (by decide)
@[go_sem] theorem lcall41 {H : Code} (args : Array Value) (w : World) : Sem.run (loneP H) (callFunc 41 args) w = .ok (.enter 41 args) w := call_of (lone_same Try.func41 (by kernel_rfl) (by decide)) (by kernel_rfl) (by kernel_rfl) args w
@[go_sem] theorem lfun41 {H : Code} : (loneP H).funcs[41]? = some Try.f41 := lone_same Try.func41 (by kernel_rfl) (by decide)
@[go_sem] theorem lcall42 {H : Code} (args : Array Value) (w : World) : Sem.run (loneP H) (callFunc 42 args) w = .ok (.enter 42 args) w := call_of (lone_same Try.func42 (by kernel_rfl) (by decide)) (by kernel_rfl) (by kernel_rfl) args w
@[go_sem] theorem lfun42 {H : Code} : (loneP H).funcs[42]? = some Try.f42 := lone_same Try.func42 (by kernel_rfl) (by decide)
-- not its own: 43 (*sync.WaitGroup).Add
-- not its own: 44 cromlech/frames.hold$1
@[go_sem] theorem lcall45 {H : Code} (args : Array Value) (w : World) : Sem.run (loneP H) (callFunc 45 args) w = .ok (.enter 45 args) w := call_of (lone_same Try.func45 (by kernel_rfl) (by decide)) (by kernel_rfl) (by kernel_rfl) args w
@[go_sem] theorem lfun45 {H : Code} : (loneP H).funcs[45]? = some Try.f45 := lone_same Try.func45 (by kernel_rfl) (by decide)
@[go_sem] theorem lcall46 {H : Code} (args : Array Value) (w : World) : Sem.run (loneP H) (callFunc 46 args) w = .ok (.enter 46 args) w := call_of (lone_same Try.func46 (by kernel_rfl) (by decide)) (by kernel_rfl) (by kernel_rfl) args w
@[go_sem] theorem lfun46 {H : Code} : (loneP H).funcs[46]? = some Try.f46 := lone_same Try.func46 (by kernel_rfl) (by decide)
@[go_sem] theorem lcall47 {H : Code} (args : Array Value) (w : World) : Sem.run (loneP H) (callFunc 47 args) w = .ok (.enter 47 args) w := call_of (lone_same Try.func47 (by kernel_rfl) (by decide)) (by kernel_rfl) (by kernel_rfl) args w
@[go_sem] theorem lfun47 {H : Code} : (loneP H).funcs[47]? = some Try.f47 := lone_same Try.func47 (by kernel_rfl) (by decide)
-- not its own: 48 (*sync.WaitGroup).Wait
@[go_sem] theorem lcall49 {H : Code} (args : Array Value) (w : World) : Sem.run (loneP H) (callFunc 49 args) w = .ok (.enter 49 args) w := call_of (lone_same Try.func49 (by kernel_rfl) (by decide)) (by kernel_rfl) (by kernel_rfl) args w
@[go_sem] theorem lfun49 {H : Code} : (loneP H).funcs[49]? = some Try.f49 := lone_same Try.func49 (by kernel_rfl) (by decide)
@[go_sem] theorem lcall50 {H : Code} (args : Array Value) (w : World) : Sem.run (loneP H) (callFunc 50 args) w = .ok (.enter 50 args) w := call_of (lone_same Try.func50 (by kernel_rfl) (by decide)) (by kernel_rfl) (by kernel_rfl) args w
@[go_sem] theorem lfun50 {H : Code} : (loneP H).funcs[50]? = some Try.f50 := lone_same Try.func50 (by kernel_rfl) (by decide)
@[go_sem] theorem lfun51 {H : Code} : (loneP H).funcs[51]? = some Try.f51 := lone_ext Try.func51 rfl (by decide)
@[go_sem] theorem lcall52 {H : Code} (args : Array Value) (w : World) : Sem.run (loneP H) (callFunc 52 args) w = .ok (.enter 52 args) w := call_of (lone_same Try.func52 (by kernel_rfl) (by decide)) (by kernel_rfl) (by kernel_rfl) args w
@[go_sem] theorem lfun52 {H : Code} : (loneP H).funcs[52]? = some Try.f52 := lone_same Try.func52 (by kernel_rfl) (by decide)
@[go_sem] theorem lcall53 {H : Code} (args : Array Value) (w : World) : Sem.run (loneP H) (callFunc 53 args) w = .ok (.enter 53 args) w := call_of (lone_same Try.func53 (by kernel_rfl) (by decide)) (by kernel_rfl) (by kernel_rfl) args w
@[go_sem] theorem lfun53 {H : Code} : (loneP H).funcs[53]? = some Try.f53 := lone_same Try.func53 (by kernel_rfl) (by decide)
-- not its own: 54 internal/race.ReleaseMerge
-- not its own: 55 internal/race.Disable
-- not its own: 56 internal/race.Enable
-- not its own: 57 internal/synctest.IsInBubble
-- not its own: 58 internal/synctest.Associate[sync.WaitGroup]
-- not its own: 59 sync.fatal
@[go_sem] theorem lcall60 {H : Code} (args : Array Value) (w : World) : Sem.run (loneP H) (callFunc 60 args) w = .ok (.enter 60 args) w := call_of (lone_same Try.func60 (by kernel_rfl) (by decide)) (by kernel_rfl) (by kernel_rfl) args w
@[go_sem] theorem lfun60 {H : Code} : (loneP H).funcs[60]? = some Try.f60 := lone_same Try.func60 (by kernel_rfl) (by decide)
@[go_sem] theorem lcall61 {H : Code} (args : Array Value) (w : World) : Sem.run (loneP H) (callFunc 61 args) w = .ok (.enter 61 args) w := call_of (lone_same Try.func61 (by kernel_rfl) (by decide)) (by kernel_rfl) (by kernel_rfl) args w
@[go_sem] theorem lfun61 {H : Code} : (loneP H).funcs[61]? = some Try.f61 := lone_same Try.func61 (by kernel_rfl) (by decide)
-- not its own: 62 internal/race.Read
@[go_sem] theorem lcall63 {H : Code} (args : Array Value) (w : World) : Sem.run (loneP H) (callFunc 63 args) w = .ok (.enter 63 args) w := call_of (lone_same Try.func63 (by kernel_rfl) (by decide)) (by kernel_rfl) (by kernel_rfl) args w
@[go_sem] theorem lfun63 {H : Code} : (loneP H).funcs[63]? = some Try.f63 := lone_same Try.func63 (by kernel_rfl) (by decide)
@[go_sem] theorem lcall64 {H : Code} (args : Array Value) (w : World) : Sem.run (loneP H) (callFunc 64 args) w = .ok (.enter 64 args) w := call_of (lone_same Try.func64 (by kernel_rfl) (by decide)) (by kernel_rfl) (by kernel_rfl) args w
@[go_sem] theorem lfun64 {H : Code} : (loneP H).funcs[64]? = some Try.f64 := lone_same Try.func64 (by kernel_rfl) (by decide)
-- not its own: 65 internal/synctest.Disassociate[sync.WaitGroup]
-- not its own: 66 sync.runtime_Semrelease
-- not its own: 67 sync/atomic.AddInt64
-- not its own: 68 internal/race.Acquire
-- not its own: 69 internal/synctest.IsAssociated[sync.WaitGroup]
@[go_sem] theorem lcall70 {H : Code} (args : Array Value) (w : World) : Sem.run (loneP H) (callFunc 70 args) w = .ok (.enter 70 args) w := call_of (lone_same Try.func70 (by kernel_rfl) (by decide)) (by kernel_rfl) (by kernel_rfl) args w
@[go_sem] theorem lfun70 {H : Code} : (loneP H).funcs[70]? = some Try.f70 := lone_same Try.func70 (by kernel_rfl) (by decide)
-- not its own: 71 internal/race.Write
-- not its own: 72 sync.runtime_SemacquireWaitGroup
-- not its own: 73 sync/atomic.LoadInt64
@[go_sem] theorem lcall74 {H : Code} (args : Array Value) (w : World) : Sem.run (loneP H) (callFunc 74 args) w = .ok (.enter 74 args) w := call_of (lone_same Try.func74 (by kernel_rfl) (by decide)) (by kernel_rfl) (by kernel_rfl) args w
@[go_sem] theorem lfun74 {H : Code} : (loneP H).funcs[74]? = some Try.f74 := lone_same Try.func74 (by kernel_rfl) (by decide)
@[go_sem] theorem lcall75 {H : Code} (args : Array Value) (w : World) : Sem.run (loneP H) (callFunc 75 args) w = .ok (.enter 75 args) w := call_of (lone_same Try.func75 (by kernel_rfl) (by decide)) (by kernel_rfl) (by kernel_rfl) args w
@[go_sem] theorem lfun75 {H : Code} : (loneP H).funcs[75]? = some Try.f75 := lone_same Try.func75 (by kernel_rfl) (by decide)
@[go_sem] theorem lcall76 {H : Code} (args : Array Value) (w : World) : Sem.run (loneP H) (callFunc 76 args) w = .ok (.enter 76 args) w := call_of (lone_same Try.func76 (by kernel_rfl) (by decide)) (by kernel_rfl) (by kernel_rfl) args w
@[go_sem] theorem lfun76 {H : Code} : (loneP H).funcs[76]? = some Try.f76 := lone_same Try.func76 (by kernel_rfl) (by decide)
@[go_sem] theorem lcall77 {H : Code} (args : Array Value) (w : World) : Sem.run (loneP H) (callFunc 77 args) w = .ok (.enter 77 args) w := call_of (lone_same Try.func77 (by kernel_rfl) (by decide)) (by kernel_rfl) (by kernel_rfl) args w
@[go_sem] theorem lfun77 {H : Code} : (loneP H).funcs[77]? = some Try.f77 := lone_same Try.func77 (by kernel_rfl) (by decide)
-- not its own: 78 sync/atomic.OrUint64
-- not its own: 79 sync/atomic.AddUint64
-- not its own: 80 sync/atomic.LoadUint64
-- not its own: 81 sync/atomic.StoreUint64
-- not its own: 82 sync/atomic.CompareAndSwapUint64
@[go_sem] theorem lcall83 {H : Code} (args : Array Value) (w : World) : Sem.run (loneP H) (callFunc 83 args) w = .ok (.enter 83 args) w := call_of (lone_same Try.func83 (by kernel_rfl) (by decide)) (by kernel_rfl) (by kernel_rfl) args w
@[go_sem] theorem lfun83 {H : Code} : (loneP H).funcs[83]? = some Try.f83 := lone_same Try.func83 (by kernel_rfl) (by decide)
@[go_sem] theorem lcall84 {H : Code} (args : Array Value) (w : World) : Sem.run (loneP H) (callFunc 84 args) w = .ok (.enter 84 args) w := call_of (lone_same Try.func84 (by kernel_rfl) (by decide)) (by kernel_rfl) (by kernel_rfl) args w
@[go_sem] theorem lfun84 {H : Code} : (loneP H).funcs[84]? = some Try.f84 := lone_same Try.func84 (by kernel_rfl) (by decide)
@[go_sem] theorem lcall85 {H : Code} (args : Array Value) (w : World) : Sem.run (loneP H) (callFunc 85 args) w = .ok (.enter 85 args) w := call_of (lone_same Try.func85 (by kernel_rfl) (by decide)) (by kernel_rfl) (by kernel_rfl) args w
@[go_sem] theorem lfun85 {H : Code} : (loneP H).funcs[85]? = some Try.f85 := lone_same Try.func85 (by kernel_rfl) (by decide)
@[go_sem] theorem lfun86 {H : Code} : (loneP H).funcs[86]? = some Try.f86 := lone_ext Try.func86 rfl (by decide)
@[go_sem] theorem lcall87 {H : Code} (args : Array Value) (w : World) : Sem.run (loneP H) (callFunc 87 args) w = .ok (.enter 87 args) w := call_of (lone_same Try.func87 (by kernel_rfl) (by decide)) (by kernel_rfl) (by kernel_rfl) args w
@[go_sem] theorem lfun87 {H : Code} : (loneP H).funcs[87]? = some Try.f87 := lone_same Try.func87 (by kernel_rfl) (by decide)
@[go_sem] theorem lcall88 {H : Code} (args : Array Value) (w : World) : Sem.run (loneP H) (callFunc 88 args) w = .ok (.enter 88 args) w := call_of (lone_same Try.func88 (by kernel_rfl) (by decide)) (by kernel_rfl) (by kernel_rfl) args w
@[go_sem] theorem lfun88 {H : Code} : (loneP H).funcs[88]? = some Try.f88 := lone_same Try.func88 (by kernel_rfl) (by decide)
@[go_sem] theorem lcall89 {H : Code} (args : Array Value) (w : World) : Sem.run (loneP H) (callFunc 89 args) w = .ok (.enter 89 args) w := call_of (lone_same Try.func89 (by kernel_rfl) (by decide)) (by kernel_rfl) (by kernel_rfl) args w
@[go_sem] theorem lfun89 {H : Code} : (loneP H).funcs[89]? = some Try.f89 := lone_same Try.func89 (by kernel_rfl) (by decide)
@[go_sem] theorem lcall90 {H : Code} (args : Array Value) (w : World) : Sem.run (loneP H) (callFunc 90 args) w = .ok (.enter 90 args) w := call_of (lone_same Try.func90 (by kernel_rfl) (by decide)) (by kernel_rfl) (by kernel_rfl) args w
@[go_sem] theorem lfun90 {H : Code} : (loneP H).funcs[90]? = some Try.f90 := lone_same Try.func90 (by kernel_rfl) (by decide)
@[go_sem] theorem lcall91 {H : Code} (args : Array Value) (w : World) : Sem.run (loneP H) (callFunc 91 args) w = .ok (.enter 91 args) w := call_of (lone_any H Try.func91 rfl) (by kernel_rfl) rfl args w
@[go_sem] theorem lcall92 {H : Code} (args : Array Value) (w : World) : Sem.run (loneP H) (callFunc 92 args) w = .ok (.enter 92 args) w := call_of (lone_any H Try.func92 rfl) (by kernel_rfl) rfl args w
@[go_sem] theorem lfun93 {H : Code} : (loneP H).funcs[93]? = some Try.f93 := lone_ext Try.func93 rfl (by decide)
@[go_sem] theorem lcall94 {H : Code} (args : Array Value) (w : World) : Sem.run (loneP H) (callFunc 94 args) w = .ok (.enter 94 args) w := call_of (lone_same Try.func94 (by kernel_rfl) (by decide)) (by kernel_rfl) (by kernel_rfl) args w
@[go_sem] theorem lfun94 {H : Code} : (loneP H).funcs[94]? = some Try.f94 := lone_same Try.func94 (by kernel_rfl) (by decide)
-- not its own: 95 sync/atomic.CompareAndSwapInt32
@[go_sem] theorem lcall96 {H : Code} (args : Array Value) (w : World) : Sem.run (loneP H) (callFunc 96 args) w = .ok (.enter 96 args) w := call_of (lone_same Try.func96 (by kernel_rfl) (by decide)) (by kernel_rfl) (by kernel_rfl) args w
@[go_sem] theorem lfun96 {H : Code} : (loneP H).funcs[96]? = some Try.f96 := lone_same Try.func96 (by kernel_rfl) (by decide)
-- not its own: 97 sync/atomic.AddInt32
@[go_sem] theorem lcall98 {H : Code} (args : Array Value) (w : World) : Sem.run (loneP H) (callFunc 98 args) w = .ok (.enter 98 args) w := call_of (lone_same Try.func98 (by kernel_rfl) (by decide)) (by kernel_rfl) (by kernel_rfl) args w
@[go_sem] theorem lfun98 {H : Code} : (loneP H).funcs[98]? = some Try.f98 := lone_same Try.func98 (by kernel_rfl) (by decide)
-- not its own: 99 internal/sync.runtime_canSpin
-- not its own: 100 internal/sync.runtime_doSpin
-- not its own: 101 internal/sync.throw
-- not its own: 102 internal/sync.runtime_nanotime
-- not its own: 103 internal/sync.runtime_SemacquireMutex
-- not its own: 104 internal/sync.fatal
-- not its own: 105 internal/sync.runtime_Semrelease
-- not its own: 106 (runtime.boundsError).Error
-- not its own: 107 (runtime.boundsError).RuntimeError
-- not its own: 108 (runtime.errorString).Error
-- not its own: 109 (runtime.errorString).RuntimeError
-- not its own: 110 (runtime.plainError).Error
-- not its own: 111 (runtime.plainError).RuntimeError
-- not its own: 112 (runtime.errorAddressString).Error
-- not its own: 113 (runtime.errorAddressString).RuntimeError
-- not its own: 114 (*runtime.TypeAssertionError).Error
-- not its own: 115 (*runtime.TypeAssertionError).RuntimeError
-- not its own: 116 (*runtime.PanicNilError).Error
-- not its own: 117 (*runtime.PanicNilError).RuntimeError
-- not its own: 118 (*internal/abi.Type).Align
-- not its own: 119 (internal/runtime/maps.unhashableTypeError).Error
-- not its own: 120 (internal/runtime/maps.unhashableTypeError).RuntimeError
-- not its own: 121 (*strings.Builder).Reset
-- not its own: 122 (internal/abi.Kind).String

/-- Lock, alone: the mutex's state is 0, and it is 1 then; a block of no use is made. -/
def bodyLk (x y : Int) : Code := muxBody x y
end Go.Proofs.Ytgfgoflhmikalaa.par
