/- Part 32 of what the proofs stand on: lemmas on worlds, on goroutines, contracts of functions. No conditions. -/
import Derived.Test.YtgfgoflhmikalaaM31
import Derived.Deep.RegionHeld3
namespace Go.Proofs.Ytgfgoflhmikalaa.par
open Go Go.Conc
set_option linter.unusedVariables false
set_option linter.unusedSimpArgs false
/-! ### Values without what is odd -/
def clv (P : Nat → Bool) : Value → Value
  | .agg cs => .agg (cs.attach.map fun x => clv P x.1)
  | .pointer (some a) => if P a.block then .pointer (some a) else undef
  | .slice (some a) l c => if P a.block then .slice (some a) l c else undef
  | .func (.method m) f c => .func (.method "") #[.iface wkT (.tuple #[.func (.method m) f c])] #[]
  | .func _ _ _ => undef
  | .map (some _) => undef
  | .chan (some _) => undef
  | .iface _ _ => undef
  | .tuple _ => undef
  | v => v
decreasing_by
  have := Array.sizeOf_lt_of_mem x.2
  simp
  omega
theorem clv_vr (P : Nat → Bool) : ∀ v, VR id (fun r => P r = true) (clv P v) v
  | .agg cs => by
    unfold clv
    refine .agg (by simp) fun i x y hx hy => ?_
    have hm : y ∈ cs := Array.mem_of_getElem? hy
    have : SizeOf.sizeOf y < SizeOf.sizeOf cs := Array.sizeOf_lt_of_mem hm
    obtain rfl : clv P y = x := by
      obtain ⟨hi, rfl⟩ := Array.getElem?_eq_some_iff.1 hy
      obtain ⟨_, rfl⟩ := Array.getElem?_eq_some_iff.1 hx
      simp
    exact clv_vr P y
  | .pointer none => by unfold clv; exact .nilp
  | .pointer (some a) => by
    unfold clv
    split
    · exact .ptr ⟨by assumption, rfl⟩
    · exact .undef _ rfl
  | .slice none l c => by unfold clv; exact .nils l c
  | .slice (some a) l c => by
    unfold clv
    split
    · exact .slice ⟨by assumption, rfl⟩ l c
    · exact .undef _ rfl
  | .func (.method m) f c => by unfold clv; exact .weird m f c
  | .func (.func _) _ _ => by unfold clv; exact .undef _ rfl
  | .func (.methodOf ..) _ _ => by unfold clv; exact .undef _ rfl
  | .func (.via ..) _ _ => by unfold clv; exact .undef _ rfl
  | .func (.yield ..) _ _ => by unfold clv; exact .undef _ rfl
  | .map none => by unfold clv; exact .nilm
  | .map (some _) => by unfold clv; exact .undef _ rfl
  | .chan none => by unfold clv; exact .nilc
  | .chan (some _) => by unfold clv; exact .undef _ rfl
  | .iface _ _ => by unfold clv; exact .undef _ rfl
  | .tuple _ => by unfold clv; exact .undef _ rfl
  | .bool b => by unfold clv; exact .bool b
  | .int k n => by unfold clv; exact .int k n
  | .float k n => by unfold clv; exact .float k n
  | .complex k n m => by unfold clv; exact .complex k n m
  | .string s => by unfold clv; exact .string s
  | .nilFunc => by unfold clv; exact .nilf
  | .nilIface => by unfold clv; exact .nili
termination_by v => SizeOf.sizeOf v
decreasing_by
  simp
  omega
/-- What is behind it is what was ahead. -/
theorem clv_back {P : Nat → Bool} {σ : Nat → Nat} {D : Nat → Prop} (hσ : ∀ r, P r = true → σ r = r) {v y : Value} (h : VR σ D (clv P v) y) (hta : isTA (clv P v) = true → y = v) : y = v := by
  cases v with
  | agg cs => exact hta (by rw [clv]; rfl)
  | tuple cs => exact hta (by rw [clv]; rfl)
  | iface t x => exact hta (by rw [clv]; rfl)
  | pointer a =>
    cases a with
    | none => unfold clv at h; cases h; rfl
    | some a =>
      by_cases hp : P a.block = true
      · rw [clv, if_pos hp] at h
        cases h with
        | ptr ha =>
          obtain ⟨_, rfl⟩ := ha
          rw [hσ _ hp]
      · exact hta (by rw [clv, if_neg hp]; rfl)
  | slice a l c =>
    cases a with
    | none => unfold clv at h; cases h; rfl
    | some a =>
      by_cases hp : P a.block = true
      · rw [clv, if_pos hp] at h
        cases h with
        | slice ha =>
          obtain ⟨_, rfl⟩ := ha
          rw [hσ _ hp]
      · exact hta (by rw [clv, if_neg hp]; rfl)
  | func fn f c =>
    cases fn with
    | method m => rw [clv] at h; cases h; rfl
    | _ => exact hta (by unfold clv; rfl)
  | map a =>
    cases a with
    | none => unfold clv at h; cases h; rfl
    | some a => exact hta (by unfold clv; rfl)
  | chan a =>
    cases a with
    | none => unfold clv at h; cases h; rfl
    | some a => exact hta (by unfold clv; rfl)
  | _ => unfold clv at h; cases h; rfl
/-! ### The world without what is odd -/
def celB (W : World) (r : Nat) : Bool :=
  match W.heap[r]? with
  | some (.cells ..) => true
  | _ => false
theorem celB_iff {W : World} {r : Nat} : celB W r = true ↔ ∃ c e f, W.heap[r]? = some (.cells c e f) := by
  unfold celB
  constructor
  · split
    · rename_i h
      exact fun _ => ⟨_, _, _, h⟩
    · exact fun h => by cases h
  · rintro ⟨c, e, f, h⟩
    rw [h]
def cleanO (P : Nat → Bool) : Obj → Obj
  | .cells c e f => .cells (c.map (clv P)) e f
  | o => o
def cleanW (W : World) : World := { W with heap := W.heap.map (cleanO (celB W)) }
theorem clean_size (W : World) : (cleanW W).heap.size = W.heap.size := by simp [cleanW]
theorem clean_at {W : World} {r : Nat} {c : Array Value} {e : TypeId} {f : Nat × Nat} (h : W.heap[r]? = some (.cells c e f)) : (cleanW W).heap[r]? = some (.cells (c.map (clv (celB W))) e f) := by
  simp [cleanW, h, cleanO]
theorem clean_cell {W : World} {a : Addr} {v : Value} (h : W.cell? a = some v) (hv : clv (celB W) v = v) : (cleanW W).cell? a = some v := by
  unfold World.cell? at h ⊢
  split at h
  · rename_i c e f hb
    rw [clean_at hb]
    dsimp only
    split at h
    · cases h
    · rw [if_neg (by assumption), Array.getElem?_map, h]
      simp [hv]
  · cases h
theorem clean_frozen (W : World) (a : Addr) : (cleanW W).frozen? a = W.frozen? a := by
  unfold World.frozen?
  simp only [cleanW, Array.getElem?_map]
  rcases W.heap[a.block]? with _ | o
  · rfl
  · cases o <;> rfl
theorem clean_shape (W : World) (r : Nat) : (cleanW W).shape? r = W.shape? r := by
  unfold World.shape?
  simp only [cleanW, Array.getElem?_map]
  rcases W.heap[r]? with _ | o
  · rfl
  · cases o <;> simp [cleanO]
abbrev Dz (W : World) : Nat → Prop := fun r => celB W r = true
theorem dz_lt {W : World} {r : Nat} (h : Dz W r) : r < W.heap.size := by
  obtain ⟨c, e, f, h⟩ := celB_iff.1 h
  exact (Array.getElem?_eq_some_iff.1 h).1
theorem sit_clean {T : Tables} {W : World} (hg : T.globals.size ≤ W.heap.size) : Sit id (Dz W) T W (cleanW W) W := by
  refine ⟨⟨fun r o hr ho => ?_, fun r hr hle => ?_, by rw [clean_size]; exact Nat.le_refl _, fun a ha hlt z hz hc => rfl⟩, fun _ _ _ _ h => h, fun _ _ => Iff.rfl, fun r hr => by rw [clean_size]; exact dz_lt hr, by rw [clean_size]; exact hg, hg⟩
  · obtain ⟨c, e, f, h⟩ := celB_iff.1 hr
    rw [clean_at h] at ho
    cases ho
    refine ⟨_, h, .cells ⟨by simp, fun i x y hx hy => ?_⟩ e f⟩
    rw [Array.getElem?_map, hy] at hx
    cases hx
    exact clv_vr _ y
  · rw [clean_size] at hle
    exact hle
/-- What the arguments are, without what is odd. -/
theorem vr_ok {P : Program} {W : World} {base : Nat} {t : TypeId} {v : Value} (h : Cell.ok P W .any base t v) : VR id (Dz W) v v := by
  have has : ∀ {a : Addr} {e : TypeId} {n : Nat}, W.has P .any base a e n → Dz W a.block := by
    intro a e n h
    obtain ⟨_, _, row, cells, h, _⟩ := h
    unfold World.shape? at h
    split at h
    · rename_i hb
      exact celB_iff.2 ⟨_, _, _, hb⟩
    · cases h
  unfold Cell.ok at h
  split at h
  · exact .bool _
  · exact .string _
  · exact .int _ _
  · exact .float _ _
  · exact .complex _ _ _
  · exact .nilp
  · exact .nils _ _
  · exact .ptr ⟨has h, rfl⟩
  · exact .slice ⟨has h.2.2, rfl⟩ _ _
  · exact h.elim
/-! ### The law -/
section
variable {f : FuncId} {args : Array Value} {W : World} {fn fn' : Func} {k k' : Tmp}
theorem end_ok (hfn : (Try.prog).funcs[f]? = some fn) (hres : fn.results = #[.tmp k]) (hi : (Try.prog).inits.idxOf? f = none) {τ0 : Nat → Question → Nat} :
    EndOk (fun g v w => g = f ∧ v = .bool true ∧ RowKit.Below W.heap.size (tp (cleanW W) w.tape) w) W (Dz W) (fun v w => v = .bool true ∧ RowKit.Below W.heap.size W w) := by
  intro σ D s fr w hj hlt hend hr hsame
  obtain ⟨fr', cs', u⟩ := s
  dsimp only at hlt hend hr
  obtain ⟨rfl, hmd⟩ := hend
  cases hlt with
  | step hn => exact absurd ⟨rfl, hmd⟩ hn
  | @stop _ _ v τ hl hR =>
    obtain ⟨rfl, rfl, hb⟩ := hR
    have hl' : fr'.leaving ⟨(Try.prog).toTables, loneF Hm⟩ (tp u τ) (.returned (.bool true)) := hl
    have hfe := hr.fr.fn
    obtain ⟨v', hv, hst⟩ := end_last hr.fr hl' (fn := fn) (by rw [← hfe]; exact hfn) hres (by rw [← hfe]; exact hi) w
    cases hv
    refine ⟨_, hst, rfl, hsame.os, hsame.tape, hsame.output, hsame.size, fun r hr2 => ?_⟩
    by_cases hz : Dz W r
    · obtain ⟨c, e, g, h⟩ := celB_iff.1 hz
      have hu : u.heap[r]? = some (.cells (c.map (clv (celB W))) e g) := by
        have := hb.block r hr2
        exact this.trans (clean_at h)
      obtain ⟨hd, hs⟩ := hj r hz
      obtain ⟨o', h1, h2⟩ := hr.sit.wr.obj r _ hd hu
      rw [hs] at h1
      rw [h1, h]
      cases h2 with
      | @cells _ c' hc =>
        suffices hcc : c' = c by rw [hcc]
        refine Array.ext ((hc.1).symm.trans (by simp)) fun i h3 h4 => ?_
        have hcu : u.cell? ⟨r, i, none⟩ = some (clv (celB W) c[i]) := by
          unfold World.cell?
          dsimp only
          rw [hu]
          simp [h4]
        have hcw : w.cell? ⟨r, i, none⟩ = some c'[i] := by
          unfold World.cell?
          dsimp only
          rw [h1]
          simp [h3]
        have hcW : W.cell? ⟨r, i, none⟩ = some c[i] := by
          unfold World.cell?
          dsimp only
          rw [h]
          simp [h4]
        refine clv_back (fun r hr => (hj r hr).2) (hc.2 i _ _ (by simp [h4]) (by simp [h3])) fun ht => ?_
        have := hr.sit.wr.orig ⟨r, i, none⟩ hd hr2 _ ht hcu
        rw [show ({ (⟨r, i, none⟩ : Addr) with block := σ r } : Addr) = ⟨r, i, none⟩ by rw [hs], hcw, hcW] at this
        exact Option.some.inj this
    · exact hsame.heap r ⟨hr2, hz⟩
/-- THE LAW'S RUN. -/
theorem main_law (hfn : (Try.prog).funcs[f]? = some fn) (hres : fn.results = #[.tmp k]) (hfn' : (loneP Hm).funcs[f]? = some fn') (hres' : fn'.results = #[.tmp k']) (hi : (Try.prog).inits.idxOf? f = none) (hsp : ¬ Sp f) (hboth : Both (loneF Hm) (Try.prog).funcs f)
    (hg : (Try.prog).toTables.globals.size ≤ W.heap.size) (hargs : VsR id (Dz W) args args) {gb : ByteArray → Int × Int × Int → Bool} (hHo : ∀ s : ByteArray, s.size < 1000000000000 → HoldsAt s (gb s))
    (hone : ∀ (s : ByteArray) (c : Int × Int × Int) (u : World), s.size < 1000000000000 → 0 ≤ c.1 → 0 ≤ c.2.1 → c.1 ≤ c.2.2 → c.2.2 + 4 ≤ (s.size : Int) → Calls (loneP Hw) 46 #[.agg #[.int .i64 c.1, .int .i64 c.2.1, .int .i64 c.2.2], .string s] u (fun e _ => e = .returned (.bool (gb s c))))
    (hlaw : ∀ τ, Calls (loneP Hm) f args (tp (cleanW W) τ) (fun e w => e = .returned (.bool true) ∧ RowKit.Below W.heap.size (tp (cleanW W) τ) w)) :
    EndsWell (fun v w => v = .bool true ∧ RowKit.Below W.heap.size W w) (crowd #[G (Frame.enter Try.prog f args .normal) []] W none) #[] := by
  have hsit : Sit id (Dz W) (Try.prog).toTables W (cleanW W) W := sit_clean hg
  have hfr : FrR id (Dz W) (Try.prog).toTables Sp (loneF Hm) (Try.prog).funcs (Frame.enter (loneP Hm) f args .normal) (Frame.enter Try.prog f args .normal) := enter_rel (P' := loneP Hm) (P := Try.prog) (lone_bod Hm) hboth hsp hargs (.inl rfl) lone_funcs rfl
  have hlt : LT (loneP Hm) tl0 (fun g v w => g = f ∧ v = .bool true ∧ RowKit.Below W.heap.size (tp (cleanW W) w.tape) w) (Frame.enter (loneP Hm) f args .normal) [] (cleanW W) :=
    lt_of_calls (R := fun τ v w => v = .bool true ∧ RowKit.Below W.heap.size (tp (cleanW W) τ) w) zp (self_bod Hm) (refused_at Hm) ⟨id, Dz W, W, _, [], W, hsit, enter_rel (P' := loneP Hm) (P := loneP Hm) (self_bod Hm) (by obtain ⟨g', _, c', _, a1, _, a3, _⟩ := hboth; exact ⟨g', g', c', c', a1, a1, a3, a3⟩) (fun h => h) hargs (.inl rfl) lone_funcs lone_funcs, .nil⟩ fun τ => (hlaw τ).mono fun e w he => ⟨_, he.1, rfl, he.2⟩
  refine main_go (fun g v w hR => ⟨fn', k', by rw [hR.1]; exact hfn', hres'⟩) hHo hone (end_ok hfn hres hi (τ0 := W.tape)) (Frame.enter (loneP Hm) f args .normal, [], cleanW W) hlt none1 id (Dz W) _ [] _ W none #[] (fun _ => 0) (fun r hr => ⟨hr, rfl⟩) ⟨hsit, hfr, .nil⟩ (camp_start _ _ fun b hb => ?_) (by simp) (fun b hb => hb.elim) ⟨rfl, rfl, rfl, Nat.le_refl _, fun _ _ => rfl⟩ fun b hb => ?_
  · obtain ⟨r, hr, rfl⟩ := hb
    exact dz_lt hr
  · obtain ⟨r, hr, rfl⟩ := hb
    exact .inl hr
end
end Go.Proofs.Ytgfgoflhmikalaa.par

namespace Go.Proofs.Ytgfgoflhmikalaa.par
open Go Go.Conc
set_option linter.unusedVariables false
set_option linter.unusedSimpArgs false
theorem hold_ok : ∀ s : ByteArray, s.size < 1000000000000 → HoldsAt s (fr.gbE s) := by
  intro s hs c w h0 h1 h2 h3
  obtain ⟨a, b, n, rfl, h4, h5⟩ := fr.cut_nat h0 h1 h2 h3
  exact (fr.holds_any (HC := Hm) s a b n w hs h4 h5).mono fun e w' he => ⟨_, he.1, rfl, he.2⟩
theorem hold_one : ∀ (s : ByteArray) (c : Int × Int × Int) (u : World), s.size < 1000000000000 → 0 ≤ c.1 → 0 ≤ c.2.1 → c.1 ≤ c.2.2 → c.2.2 + 4 ≤ (s.size : Int) → Calls (loneP Hw) 46 #[.agg #[.int .i64 c.1, .int .i64 c.2.1, .int .i64 c.2.2], .string s] u (fun e _ => e = .returned (.bool (fr.gbE s c))) := by
  intro s c w hs h0 h1 h2 h3
  obtain ⟨a, b, n, rfl, h4, h5⟩ := fr.cut_nat h0 h1 h2 h3
  exact (fr.holds_any (HC := Hw) s a b n w hs h4 h5).mono fun e w' he => he.1
end Go.Proofs.Ytgfgoflhmikalaa.par

namespace Go.Proofs.Ytgfgoflhmikalaa.fr
open Go.RowKit Go.Proofs.Ytgfgoflhmikalaa.cm Go.Proofs.Ytgfgoflhmikalaa.cw Go.Proofs.Ytgfgoflhmikalaa.par
set_option linter.unusedVariables false
set_option linter.unusedSimpArgs false
attribute [local irreducible] Go.Proofs.Ytgfgoflhmikalaa.par.loneP
abbrev Cut := Nat × Nat × Nat
def cI3 (c : Cut) : Int × Int × Int := ((c.1 : Int), (c.2.1 : Int), (c.2.2 : Int))
/-- Cuts of a text that come in. -/
def CutsIn (w : World) (v : Value) (cs : List Cut) : Prop :=
  ∃ (ad : Option Addr) (cap : Nat), v = .slice ad cs.length cap ∧ cs.length ≤ cap ∧ cap < 9223372036854775808 ∧ (0 < cs.length → ∃ b, ad = some ⟨b, 0, none⟩ ∧ ∀ i, i < cs.length →
    w.cell? ⟨b, i * 3, none⟩ = some (.int .i64 ((cs.getD i (0, 0, 0)).1 : Int)) ∧ w.cell? ⟨b, i * 3 + 1, none⟩ = some (.int .i64 ((cs.getD i (0, 0, 0)).2.1 : Int)) ∧ w.cell? ⟨b, i * 3 + 2, none⟩ = some (.int .i64 ((cs.getD i (0, 0, 0)).2.2 : Int)))
def CutIs (s : ByteArray) (c : Cut) : Prop := c.1 ≤ c.2.1 ∧ c.2.1 ≤ c.2.2 ∧ c.2.2 + 4 ≤ s.size
theorem lfunHm {H : Code} (h : H = Hm) : (loneP H).funcs[33]? = some { Try.f33 with body := some Hm } := by
  subst h
  rw [lone_funcs, lone_hold, pr_Hm]
theorem fld0 (H : Code) (x y z : Value) (w : World) : Sem.run (loneP H) (Instr.field 65 (.agg #[x, y, z]) 0) w = .ok x w := by kernel_rfl
theorem fld1 (H : Code) (x y z : Value) (w : World) : Sem.run (loneP H) (Instr.field 65 (.agg #[x, y, z]) 1) w = .ok y w := by kernel_rfl
theorem fld2 (H : Code) (x y z : Value) (w : World) : Sem.run (loneP H) (Instr.field 65 (.agg #[x, y, z]) 2) w = .ok z w := by kernel_rfl
theorem all_snoc (l : List Cut) (f : Cut → Bool) {k : Nat} (h : k < l.length) : (l.take (k + 1)).all f = ((l.take k).all f && f (l.getD k (0, 0, 0))) := by
  rw [List.take_add_one, List.all_append]
  simp [List.getD, h]
set_option maxRecDepth 100000 in
theorem hold_any {H : Code} (hEq : H = Hm) (s : ByteArray) (v : Value) (l : List Cut) (w : World) (hs : s.size < 1000000000000) (hl : l.length < 1000000000000) (hv : CutsIn w v l) (hc : ∀ c ∈ l, CutIs s c) :
    Calls (loneP H) 33 #[.string s, v] w fun e w' => e = .returned (.bool (l.all fun c => gbE s (cI3 c))) ∧ Below w.heap.size w w' := by
  obtain ⟨ad, cap, rfl, h1, h2, h3⟩ := hv
  have HV := Lib.hid h3
  clear h3
  go_enter (lfunHm hEq), Try.ntmps33
  simp only [Hm, cL, cB, cC, cD, cE, cF, cG, cH, cI, cJ, must, hA, hB, hC, hD, hE, hF, hG, hH, hI, hJ, op0, opLen, opCap, opData]
  clear hEq
  go_wp2_with fail
  go_loopw [4, 8] (fun r i wr => ∃ k : Nat, k ≤ l.length ∧ i = .int .i64 k ∧ r = .bool ((l.take k).all fun c => gbE s (cI3 c)) ∧ Hid (Below w.heap.size w wr)) (fun _ i _ => l.length - (intOf i).toNat)
  case atStart => exact ⟨0, Nat.zero_le _, rfl, by simp, Lib.hid (Below.refl _ _)⟩
  case round =>
    obtain ⟨k, hk, rfl, rfl, hb⟩ := hrel
    by_cases hlk : k < l.length
    · obtain ⟨b, rfl, h4⟩ := HV.out (by omega)
      obtain ⟨e0, e1, e2⟩ := h4 k hlk
      have hmem : l.getD k (0, 0, 0) ∈ l := by simp [List.getD, hlk]
      obtain ⟨o1, o2, o3⟩ := hc _ hmem
      have HA := Lib.hid (all_snoc l (fun c => gbE s (cI3 c)) hlk)
      have g0 := cell_tr hb.out e0
      have g1 := cell_tr hb.out e1
      have g2 := cell_tr hb.out e2
      clear e0 e1 e2 h4 hmem
      generalize l.getD k (0, 0, 0) = c at *
      obtain ⟨x, y, z⟩ := c
      dsimp only at *
      have HU := Lib.hid (holds_any (HC := H) s x y z)
      have hsd : Sem.run (loneP H) (Builtin.unsafeSliceData_ #[63] 0 #[.slice (some ⟨b, 0, none⟩) l.length cap]) wr = .ok (.pointer (some ⟨b, 0, none⟩)) wr := by
        rw [data_some _ _ _ _ _ (by omega)]
        rfl
      have hmx := mux_eq (HC := H) _ wr g0
      have ka : Below wr.heap.size wr (wr.alloc muxO) := kp_alloc (Below.refl _ _) _
      have f0 := cell_tr ka g0
      have f1 := cell_tr ka g1
      have f2 := cell_tr ka g2
      have HK : Hid (Below w.heap.size w (wr.alloc muxO)) := Lib.hid (hb.out.trans (ka.mono hb.out.size))
      clear ka
      have q0 := fld0 H
      have q1 := fld1 H
      have q2 := fld2 H
      have i1 : (0 : Int) ≤ (x : Int) := by omega
      have i2 : (0 : Int) ≤ (y : Int) := by omega
      have i3 : (x : Int) ≤ (z : Int) := by omega
      have i4 : (z : Int) ≤ (s.size : Int) := by omega
      have i5 : (z : Int) + 4 ≤ (s.size : Int) := by omega
      go_wp2_with fail
      refine (HU.out _ hs (by omega) (by omega)).mono ?_; rintro e w2 ⟨rfl, k2⟩
      have HB : Hid (Below w.heap.size w w2) := Lib.hid (HK.out.trans (k2.mono HK.out.size))
      have HA2 : Hid (((l.take (k + 1)).all fun c => gbE s (cI3 c)) = (((l.take k).all fun c => gbE s (cI3 c)) && gbE s ((x : Int), (y : Int), (z : Int)))) := HA
      clear HA HU k2 q0 q1 q2 hsd hmx
      generalize ((l.take k).all fun c => gbE s (cI3 c)) = r1 at *
      rcases hg : gbE s ((x : Int), (y : Int), (z : Int)) with _ | _
      · rw [hg] at HA2
        go_wp2_with fail
        exact ⟨⟨k + 1, by omega, by go_num, by rw [HA2.out]; simp, HB⟩, by simp [intOf]; omega⟩
      · rw [hg] at HA2
        go_wp2_with fail
        exact ⟨⟨k + 1, by omega, by go_num, by rw [HA2.out]; simp, HB⟩, by simp [intOf]; omega⟩
    · obtain rfl : k = l.length := by omega
      go_wp2_with fail
      go_ret
      exact ⟨by simp, hb.out⟩
end Go.Proofs.Ytgfgoflhmikalaa.fr

namespace Go.Proofs.Ytgfgoflhmikalaa.fr
open Go.RowKit Go.Proofs.Ytgfgoflhmikalaa.cm Go.Proofs.Ytgfgoflhmikalaa.cw Go.Proofs.Ytgfgoflhmikalaa.ga
set_option linter.unusedVariables false
set_option linter.unusedSimpArgs false
variable {HC : Code}
attribute [local irreducible] Go.Proofs.Ytgfgoflhmikalaa.par.loneP
theorem read_neg (s : ByteArray) (at_ : Int) (w : World) (ha : at_ < 0) :
    Calls (Go.Proofs.Ytgfgoflhmikalaa.par.loneP HC) 31 #[.string s, .int .i64 at_] w fun e w' => e = .returned (rdV (.bad 1)) ∧ Below w.heap.size w w' := by
  go_enter (Go.Proofs.Ytgfgoflhmikalaa.par.lfun31 (H := HC)), Try.ntmps31
  go_wp2_with fail
  (try simp only [Exit.inBlock, Exit.then])
  refine bodyPost_ret (v := rdV (.bad 1)) ((results_cell_tmp rfl _ _ _).trans ?_) rfl ?_
  · simp [go_sem, rdV]
  · exact ⟨rfl, by (repeat (first | with_reducible exact Below.refl _ _ | with_reducible refine kp_alloc ?_ _ | with_reducible refine kp_drew ?_ | with_reducible refine kp_set ?_ (by first | omega | (simp; done) | (simp; omega)) _ | with_reducible refine kp_tr ?_ (by with_reducible assumption)))⟩
def frV (id : Int) (body : ByteArray) : Value := .agg #[.int .i64 id, .string body]
set_option maxRecDepth 100000 in
theorem frame_any (s : ByteArray) (a b n : Nat) (w : World) (hs : s.size < 1000000000000) (h1 : a < s.size) (h2 : b ≤ n) (h3 : n ≤ s.size) :
    Calls (Go.Proofs.Ytgfgoflhmikalaa.par.loneP HC) 34 #[.agg #[.int .i64 a, .int .i64 b, .int .i64 n], .string s] w fun e w' => e = .returned (frV (s[a].toNat : Nat) (s.extract b n)) ∧ Below w.heap.size w w' := by
  have hB : s[a].toNat < 256 := s[a].toNat_lt
  generalize hx : s[a].toNat = x at *
  have hwx : IntKind.i64.wrap (x : Int) = (x : Int) := wr_i64 _ (by omega)
  go_enter (Go.Proofs.Ytgfgoflhmikalaa.par.lfun34 (H := HC)), Try.ntmps34
  go_wp2_with fail
  have i1 : (a : Int) < (s.size : Int) := by omega
  have i2 : (b : Int) ≤ (n : Int) := by omega
  have i3 : (n : Int) ≤ (s.size : Int) := by omega
  have i4 : (0 : Int) ≤ (a : Int) := by omega
  have i5 : (0 : Int) ≤ (b : Int) := by omega
  have hM : ((s.extract b n).size : Nat) ≤ 281474976710656 := by simp; omega
  generalize hW : (w.alloc (.cells #[.int .i64 a, .int .i64 b, .int .i64 n] 65)).alloc (.cells #[.int .i64 0, .string ⟨#[]⟩] 27) = W
  have c0 : W.cell? ⟨w.heap.size, 0, none⟩ = some (.int .i64 a) := by rw [← hW]; simp
  have c1 : W.cell? ⟨w.heap.size, 1, none⟩ = some (.int .i64 b) := by rw [← hW]; simp
  have c2 : W.cell? ⟨w.heap.size, 2, none⟩ = some (.int .i64 n) := by rw [← hW]; simp
  have d0 : W.cell? ⟨w.heap.size + 1, 0, none⟩ = some (.int .i64 0) := by rw [← hW]; simp
  have d1 : W.cell? ⟨w.heap.size + 1, 1, none⟩ = some (.string ⟨#[]⟩) := by rw [← hW]; simp
  have f0 : W.frozen? ⟨w.heap.size + 1, 0, none⟩ = false := by rw [← hW]; simp
  have f1 : W.frozen? ⟨w.heap.size + 1, 1, none⟩ = false := by rw [← hW]; simp
  have hbW : Below w.heap.size w W := by rw [← hW]; (repeat (first | with_reducible exact Below.refl _ _ | with_reducible refine kp_alloc ?_ _ | with_reducible refine kp_drew ?_ | with_reducible refine kp_set ?_ (by first | omega | (simp; done) | (simp; omega)) _ | with_reducible refine kp_tr ?_ (by with_reducible assumption)))
  have hWs : w.heap.size + 1 < W.heap.size := by rw [← hW]; simp
  clear hW
  go_region_held3 (fun w' => w'.cell? ⟨w.heap.size, 0, none⟩ = some (.int .i64 (a : Int)) ∧ w'.cell? ⟨w.heap.size, 1, none⟩ = some (.int .i64 (b : Int)) ∧ w'.cell? ⟨w.heap.size, 2, none⟩ = some (.int .i64 (n : Int)))
    (first | go_keep | (refine s3_tr (W := W) ?_ ⟨c0, c1, c2⟩; (repeat (first | with_reducible exact Below.refl _ _ | with_reducible refine kp_alloc ?_ _ | with_reducible refine kp_drew ?_ | with_reducible refine kp_set ?_ (by first | omega | (simp; done) | (simp; omega)) _ | with_reducible refine kp_tr ?_ (by with_reducible assumption)))))
    (first
      | (go_at_call 50; refine (clone_any _ _ hM).mono ?_; rintro e w1 ⟨rfl, k1⟩; have e0 := cell_tr k1 d0; have e1 := cell_tr k1 d1; have g0 := (k1.frozen (p := ⟨w.heap.size + 1, 0, none⟩) hWs).trans f0; have g1 := (k1.frozen (p := ⟨w.heap.size + 1, 1, none⟩) hWs).trans f1))
  all_goals
    go_wp2_with fail
    refine bodyPost_ret (v := frV (x : Int) (s.extract b n)) (by simp only [results, Try.results34, frV]; go_simp) rfl ⟨rfl, ?_⟩
    have := kp_tr (kp_drew hbW) k1
    (repeat (first | with_reducible exact Below.refl _ _ | with_reducible refine kp_alloc ?_ _ | with_reducible refine kp_drew ?_ | with_reducible refine kp_set ?_ (by first | omega | (simp; done) | (simp; omega)) _ | with_reducible refine kp_tr ?_ (by with_reducible assumption)))
theorem rd_ok {l : List Nat} {at_ a b n : Nat} (h : rd l at_ = .ok a b n) : a = at_ ∧ at_ < l.length ∧ a ≤ b ∧ b ≤ n ∧ n + 4 ≤ l.length := by
  unfold rd at h
  split at h
  · cases h
  · rename_i x t hd
    have hlt : at_ < l.length := by
      rcases Nat.lt_or_ge at_ l.length with e | e
      · exact e
      · rw [List.drop_eq_nil_of_le e] at hd; cases hd
    split at h
    · cases h
    · split at h
      · cases h
      · cases h
      · split at h
        · cases h
          exact ⟨rfl, hlt, by omega, by omega, by omega⟩
        · cases h
theorem rd_bad {l : List Nat} {at_ : Nat} {e : Int} (h : rd l at_ = .bad e) : e = 2 ∨ e = 3 := by
  unfold rd at h
  split at h
  · cases h; exact .inl rfl
  · split at h
    · cases h; exact .inr rfl
    · split at h
      · cases h; exact .inl rfl
      · cases h; exact .inr rfl
      · split at h
        · cases h
        · cases h; exact .inl rfl
/-- What frames.Take says. -/
inductive TK where
  | ok (id : Nat) (body : ByteArray) (next : Nat)
  | bad (e : Int)
def tkV : TK → Value
  | .ok id body n => .tuple #[frV (id : Int) body, .int .i64 (n : Int), .int .i64 0]
  | .bad e => .tuple #[frV 0 ⟨#[]⟩, .int .i64 0, .int .i64 e]
def tk (s : ByteArray) (at_ : Nat) : TK :=
  match rd (bytesN s) at_ with
  | .bad e => .bad e
  | .ok a b n => if gbE s (cI3 (a, b, n)) then .ok ((bytesN s).getD a 0) (s.extract b n) (n + 4) else .bad 4
theorem one_cut (W : World) (a b n : Nat) : CutsIn (W.alloc (.cells #[.int .i64 (a : Int), .int .i64 (b : Int), .int .i64 (n : Int)] 65)) (.slice (some ⟨W.heap.size, 0, none⟩) 1 1) [(a, b, n)] :=
  ⟨_, 1, rfl, Nat.le_refl _, by decide, fun _ => ⟨W.heap.size, rfl, fun i hi => by
    obtain rfl : i = 0 := by simp at hi; exact hi
    simp⟩⟩
set_option maxRecDepth 100000 in
set_option maxHeartbeats 4000000 in
theorem ftake_any (hEq : HC = par.Hm) (s : ByteArray) (at_ : Nat) (w : World) (hs : s.size < 1000000000000) (ha : at_ < 1000000000000000) :
    Calls (Go.Proofs.Ytgfgoflhmikalaa.par.loneP HC) 20 #[.string s, .int .i64 at_] w fun e w' => e = .returned (tkV (tk s at_)) ∧ Below w.heap.size w w' := by
  have HE := Lib.hid (hold_any hEq s)
  clear hEq
  have HR := Lib.hid (read_any (HC := HC) s at_)
  have HT : Hid (tk s at_ = match rd (bytesN s) at_ with | .bad e => .bad e | .ok a b n => if gbE s (cI3 (a, b, n)) then .ok ((bytesN s).getD a 0) (s.extract b n) (n + 4) else .bad 4) := Lib.hid rfl
  have hok := @rd_ok (bytesN s) at_
  have hbad := @rd_bad (bytesN s) at_
  rw [bytesN_len] at hok
  generalize rd (bytesN s) at_ = R at *
  rcases R with ⟨a, b, n⟩ | e
  · obtain ⟨rfl, h1, h2, h3, h4⟩ := hok rfl
    clear hok hbad
    dsimp only at HT
    have hcI : ∀ c ∈ [(a, b, n)], CutIs s c := fun c hc => by
      obtain rfl := List.mem_singleton.1 hc
      exact ⟨h2, h3, h4⟩
    have HC1 := Lib.hid (fun (W : World) (m : Nat) (hm : m = W.heap.size) => (HE.out (.slice (some ⟨m, 0, none⟩) 1 1) [(a, b, n)] (W.alloc (.cells #[.int .i64 (a : Int), .int .i64 (b : Int), .int .i64 (n : Int)] 65)) hs (by simp) (by rw [hm]; exact one_cut W a b n) hcI))
    have hal : ([(a, b, n)] : List Cut).all (fun c => gbE s (cI3 c)) = gbE s (cI3 (a, b, n)) := by simp
    rw [hal] at HC1
    have hg : (bytesN s).getD a 0 = s[a].toNat := by
      have hl : a < (bytesN s).length := by rw [bytesN_len]; exact h1
      rw [List.getD, List.getElem?_eq_getElem hl]
      simp [bytesN]
      rfl
    rw [hg] at HT
    generalize hG : gbE s (cI3 (a, b, n)) = G at *
    have HF := Lib.hid (fun (w : World) => frame_any (HC := HC) s a b n w hs h1 h3 (by omega))
    have HN := Lib.hid (next_any (HC := HC) (a : Int) (b : Int) (n : Int))
    clear hcI hal hG HE hg
    generalize s[a].toNat = x at *
    generalize s.extract b n = z at *
    go_enter (Go.Proofs.Ytgfgoflhmikalaa.par.lfun20 (H := HC)), Try.ntmps20
    go_wp2_with fail
    have K0 := Blk.new w #[.int .i64 0, .string ⟨#[]⟩] 27
    refine (HR.out _ hs ha).mono ?_; rintro e' w1 ⟨rfl, k1⟩
    unfold rdV
    replace K0 := K0.tr k1
    obtain ⟨l0, c0, f0⟩ := K0.get
    have hb1 : Below w.heap.size w w1 := by (repeat (first | with_reducible exact Below.refl _ _ | with_reducible refine kp_alloc ?_ _ | with_reducible refine kp_drew ?_ | with_reducible refine kp_set ?_ (by first | omega | (simp; done) | (simp; omega)) _ | with_reducible refine kp_tr ?_ (by with_reducible assumption)))
    clear k1
    go_wp2_with fail
    have K1 := Blk.new w1 #[.int .i64 (a : Int), .int .i64 (b : Int), .int .i64 (n : Int)] 65
    replace K0 := K0.alloc (.cells #[.int .i64 (a : Int), .int .i64 (b : Int), .int .i64 (n : Int)] 65)
    replace hb1 := kp_alloc hb1 (.cells #[.int .i64 (a : Int), .int .i64 (b : Int), .int .i64 (n : Int)] 65)
    refine (HC1.out _ _ (by simp)).mono ?_; rintro e' w2 ⟨rfl, k2⟩
    replace K1 := (K1.alloc (.cells #[.int .i64 (a : Int), .int .i64 (b : Int), .int .i64 (n : Int)] 65)).tr k2
    replace K0 := (K0.alloc (.cells #[.int .i64 (a : Int), .int .i64 (b : Int), .int .i64 (n : Int)] 65)).tr k2
    have hb2 : Below w.heap.size w w2 := kp_tr (kp_alloc hb1 _) k2
    have hz : ¬ w1.heap.size = w.heap.size := by have := l0; omega
    have hz2 : ¬ w.heap.size = w1.heap.size := fun e => hz e.symm
    clear k2 hb1 l0 c0 f0 HC1 HR
    generalize w1.heap.size = m1 at *
    obtain ⟨l0, c0, f0⟩ := K0.get
    obtain ⟨l1, c1, f1⟩ := K1.get
    rcases G with _ | _
    · go_wp2_with fail
      refine bodyPost_ret (v := tkV (.bad 4)) (by simp only [results, Try.results20, tkV, frV]; go_simp) rfl ⟨by rw [HT.out]; rfl, ?_⟩
      (repeat (first | with_reducible exact Below.refl _ _ | with_reducible refine kp_alloc ?_ _ | with_reducible refine kp_drew ?_ | with_reducible refine kp_set ?_ (by first | omega | (simp; done) | (simp; omega)) _ | with_reducible refine kp_tr ?_ (by with_reducible assumption)))
    · go_wp2_with fail
      go_region_held3 (fun w' => w'.cell? ⟨m1, 0, none⟩ = some (.int .i64 (a : Int)) ∧ w'.cell? ⟨m1, 1, none⟩ = some (.int .i64 (b : Int)) ∧ w'.cell? ⟨m1, 2, none⟩ = some (.int .i64 (n : Int)))
        (first | go_keep | (refine s3_tr (W := w2) ?_ ⟨c1 0, c1 1, c1 2⟩; (repeat (first | with_reducible exact Below.refl _ _ | with_reducible refine kp_alloc ?_ _ | with_reducible refine kp_drew ?_ | with_reducible refine kp_set ?_ (by first | omega | (simp; done) | (simp; omega)) _ | with_reducible refine kp_tr ?_ (by with_reducible assumption)))))
        (first
          | (go_at_call 34; refine (HF.out _).mono ?_; rintro e w3 ⟨rfl, k3⟩; have K3 := K0.drew.tr k3; unfold frV)
          | (go_at_call 32; refine (HN.out _ (by omega) (by omega)).mono ?_; rintro e w4 ⟨rfl, k4⟩; obtain ⟨l4, c4, f4⟩ := (K3.tr k4).get; have e0 : w4.cell? ⟨w.heap.size, 0, none⟩ = some (.int .i64 0) := c4 0; have e1 : w4.cell? ⟨w.heap.size, 1, none⟩ = some (.string ⟨#[]⟩) := c4 1; have g0 := f4 0; have g1 := f4 1; clear c4 f4))
      go_wp2_with fail
      have e4 : ((n + 4 : Nat) : Int) = (n : Int) + 4 := by omega
      refine bodyPost_ret (v := tkV (.ok x z (n + 4))) (by simp only [results, Try.results20, tkV, frV, e4]; go_simp) rfl ⟨by rw [HT.out]; rfl, ?_⟩
      (repeat (first | with_reducible exact Below.refl _ _ | with_reducible refine kp_alloc ?_ _ | with_reducible refine kp_drew ?_ | with_reducible refine kp_set ?_ (by first | omega | (simp; done) | (simp; omega)) _ | with_reducible refine kp_tr ?_ (by with_reducible assumption)))
  · have he := hbad rfl
    have he0 : ¬ e = 0 := by omega
    clear hok hbad HE
    dsimp only at HT
    go_enter (Go.Proofs.Ytgfgoflhmikalaa.par.lfun20 (H := HC)), Try.ntmps20
    go_wp2_with fail
    have K0 := Blk.new w #[.int .i64 0, .string ⟨#[]⟩] 27
    refine (HR.out _ hs ha).mono ?_; rintro e' w1 ⟨rfl, k1⟩
    unfold rdV
    replace K0 := K0.tr k1
    obtain ⟨l0, c0, f0⟩ := K0.get
    have hb1 : Below w.heap.size w w1 := by (repeat (first | with_reducible exact Below.refl _ _ | with_reducible refine kp_alloc ?_ _ | with_reducible refine kp_drew ?_ | with_reducible refine kp_set ?_ (by first | omega | (simp; done) | (simp; omega)) _ | with_reducible refine kp_tr ?_ (by with_reducible assumption)))
    clear k1
    go_wp2_with fail
    refine bodyPost_ret (v := tkV (.bad e)) (by simp only [results, Try.results20, tkV, frV]; go_simp) rfl ⟨by rw [HT.out], ?_⟩
    (repeat (first | with_reducible exact Below.refl _ _ | with_reducible refine kp_alloc ?_ _ | with_reducible refine kp_drew ?_ | with_reducible refine kp_set ?_ (by first | omega | (simp; done) | (simp; omega)) _ | with_reducible refine kp_tr ?_ (by with_reducible assumption)))
theorem ftake_neg (s : ByteArray) (at_ : Int) (w : World) (ha : at_ < 0) :
    Calls (Go.Proofs.Ytgfgoflhmikalaa.par.loneP HC) 20 #[.string s, .int .i64 at_] w fun e w' => e = .returned (tkV (.bad 1)) ∧ Below w.heap.size w w' := by
  go_enter (Go.Proofs.Ytgfgoflhmikalaa.par.lfun20 (H := HC)), Try.ntmps20
  go_wp2_with fail
  have K0 := Blk.new w #[.int .i64 0, .string ⟨#[]⟩] 27
  refine (read_neg s at_ _ ha).mono ?_; rintro e' w1 ⟨rfl, k1⟩
  unfold rdV
  replace K0 := K0.tr k1
  obtain ⟨l0, c0, f0⟩ := K0.get
  have hb1 : Below w.heap.size w w1 := by (repeat (first | with_reducible exact Below.refl _ _ | with_reducible refine kp_alloc ?_ _ | with_reducible refine kp_drew ?_ | with_reducible refine kp_set ?_ (by first | omega | (simp; done) | (simp; omega)) _ | with_reducible refine kp_tr ?_ (by with_reducible assumption)))
  clear k1
  go_wp2_with fail
  refine bodyPost_ret (v := tkV (.bad 1)) (by simp only [results, Try.results20, tkV, frV]; go_simp) rfl ⟨rfl, ?_⟩
  (repeat (first | with_reducible exact Below.refl _ _ | with_reducible refine kp_alloc ?_ _ | with_reducible refine kp_drew ?_ | with_reducible refine kp_set ?_ (by first | omega | (simp; done) | (simp; omega)) _ | with_reducible refine kp_tr ?_ (by with_reducible assumption)))
end Go.Proofs.Ytgfgoflhmikalaa.fr
