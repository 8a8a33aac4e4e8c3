/- Part 16 of what the proofs stand on: lemmas on worlds, on goroutines, contracts of functions. No conditions. -/
import Derived.Test.YtgfgoflhmikalaaM15
import Derived.Test.YtgfgoflhmikalaaProg
import Derived.Conc.WgGenN2
import Derived.Conc.CompanyDraw
namespace Go.Proofs.Ytgfgoflhmikalaa.par
open Go Go.Conc
open Go.ConcN (CT Apart Deaf_absent PermW RelBy sumTo sumTo_congr sumTo_upd le_sumTo sumTo_le)
open Go.ConcR (stA smA WgAt KK rd wr)
set_option linter.unusedVariables false
set_option linter.unusedSimpArgs false
namespace Par
variable {A : Par} {Anch FinS : (Nat → Prop) → Nat → Goroutine → World → Prop}
/-- Behind the acquire the starter knows what stands ahead of a release. -/
theorem acq_edge {N : Nat} {t : Trace} (hA : Acq A.N0 A.Wg N t) (hn : NoRelease (stA A.Wg) t) {k : Nat} (k1 : A.N0 ≤ k) (kN : k < N) : ∃ r q, Rl A.Wg t k r ∧ t.g? q = some 0 ∧ ∀ i, t.g? i = some k → i ≤ r → HappensBefore t i q := by
  obtain ⟨q, h1, h2, h3, h4⟩ := hA
  obtain ⟨r, hr, hrq⟩ := h4 k k1 kN
  have edge : HappensBefore t r q := .single (.inr ⟨.marked hrq (.inr hr.1.act) h1 (fun k _ _ => hn k), hr.1.heard, h3⟩)
  refine ⟨r, q, hr, h2, fun i hg hi => ?_⟩
  rcases Nat.lt_or_ge i r with hlt | hge
  · exact .trans (.single (.inl ⟨hlt, k, hg, hr.1.g⟩)) edge
  · obtain rfl : i = r := by omega
    exact edge
theorem sumTo_zero {f : Nat → Nat} : ∀ {n : Nat}, (∀ i, i < n → f i = 0) → sumTo n f = 0
  | 0, _ => rfl
  | n + 1, h => by
    have h1 := sumTo_zero (f := f) (n := n) fun i hi => h i (by omega)
    have h2 := h n (Nat.lt_succ_self n)
    simp only [sumTo]
    omega
theorem phase_law (hn : 1 ≤ A.N0) (ne : A.Wg ≠ A.wB) (hbnd : 4 * A.bnd < 9223372036854775807) (K : Machine → Trace → Prop) (hback : ∀ m t m' ops, stepT A.P m = (.next m', ops) → K m' (t ++ ops) → K m t) (hAn : ∀ O d g w, Anch O d g w → A.LM (A.W1 Anch FinS) O d g w) (hF : ∀ O d g w, FinS O d g w → d = 0 ∧ g.status = .running)
    (hfin : ∀ gs w sl t q a O, Camp A.P (fun b => A.S0 b ∨ b = A.Wg) gs w t (fun _ => False) q → gs.size = A.N0 + 4 → gs[0]? = some a → (∀ b, O b → b < w.heap.size ∧ ¬ A.Sh b) → (∃ v : Int, A.WB v w ∧ (v = 0 ↔ ∀ k, k < 4 → A.gd k)) → A.Live w → (∀ w₁, A.Env O w w₁ → FinS O 0 a w₁) → K (crowd gs w sl) t)
    {gs : Array Goroutine} {w : World} {sl : Option (Nat × Nat)} {t : Trace} {O : Nat → Prop} {q : Nat → Nat} {a : Goroutine} (hc : Camp A.P A.S0 gs w t O q) (hN : gs.size = A.N0) (ha : gs[0]? = some a) (hW : WgAt A.tW A.Wg w 0 0) (hB : A.WB 0 w) (hl : A.Live w) (hu : UnT (fun b => b = A.Wg ∨ b = A.wB) t) (hnr : NoRelease (stA A.Wg) t)
    (hB1 : A.B1 ≤ w.heap.size) {Om : Nat → Prop} (hOm : ∀ b, Om b → A.B1 ≤ b ∧ b < w.heap.size ∧ ¬ A.Sh b) (hO : A.LM (A.A1 (A.GoR Anch FinS 3)) Om 0 a w) : K (crowd gs w sl) t := by
  obtain ⟨r, hr⟩ := hO.ranked
  have hSlt : ∀ b, A.Sh b → b < w.heap.size := fun b hb => by
    rcases hb with h | rfl | rfl
    · exact hc.ge.shlt b h
    · exact (Array.getElem?_eq_some_iff.1 (show w.heap[A.Wg]? = _ from hW)).1
    · exact (Array.getElem?_eq_some_iff.1 (show w.heap[A.wB]? = _ from hB)).1
  let T := A.team Anch FinS
  let x : Nat → GR Ft := fun k => if k = 0 then ⟨.at (.a1 3), r, Om, 0⟩ else ⟨.quit, Rk.nat (q k), none1, Deaf t k⟩
  have x0 : ∀ k, k ≠ 0 → x k = ⟨.quit, Rk.nat (q k), none1, Deaf t k⟩ := fun k hk => by simp [x, hk]
  have hp : T.Parts gs w t x := by
    refine ⟨fun i g hi => ?_, ⟨fun k b hb => ?_, fun k k' b h1 h2 => ?_, fun k b hb => ?_, fun k b hb => ?_, hSlt, fun b hb => Nat.lt_of_lt_of_le hb.1 hB1, fun b hb hs => ?_⟩, ⟨⟨?_, fun k k1 kj l hl => ?_, fun k k1 kj l hl => ?_, fun l hs hl => ?_, fun l hs hl => ?_, hc.ti.ct.nr, hc.ti.ct.gs⟩, hc.ti.seen⟩, fun k hk => ?_, hc.pos, fun k k1 hq => ?_, ?_, ?_, hl, fun k b hb => ?_⟩
    · by_cases h0 : i = 0
      · subst h0
        rw [ha] at hi
        obtain rfl := Option.some.inj hi
        exact hr
      · show T.Sits i (x i) g w
        rw [x0 i h0]
        exact ⟨h0, q i, rfl, hc.old i g h0 hi⟩
    · by_cases h0 : k = 0
      · subst h0; exact (hOm b hb).2.1
      · rw [x0 k h0] at hb; exact hb.elim
    · by_cases h0 : k = 0
      · by_cases h0' : k' = 0
        · omega
        · rw [x0 k' h0'] at h2; exact h2.elim
      · rw [x0 k h0] at h1; exact h1.elim
    · by_cases h0 : k = 0
      · subst h0; exact (hOm b hb).2.2
      · rw [x0 k h0] at hb; exact hb.elim
    · by_cases h0 : k = 0
      · subst h0
        intro hh
        have h1 := (hOm b hb).1
        have h2 : b < A.B1 := hh.1
        omega
      · rw [x0 k h0] at hb; exact hb.elim
    · rcases hs with h | h | h
      · exact hb.2.2.2 h
      · exact hb.2.1 h
      · exact hb.2.2.1 h
    · intro i op z ho hz hs
      have h1 : inB A.S0 z.loc ∨ inB (fun b => b = A.Wg ∨ b = A.wB) z.loc := inB.or hs
      rcases h1 with h1 | h1
      · exact hc.ti.ct.quiet i op z ho hz h1
      · exact absurd h1 ((hu op (Array.mem_of_getElem? ho)).1 z hz)
    · have e0 : k ≠ 0 := by omega
      rw [show (x k).own = none1 by rw [x0 k e0]] at hl
      obtain ⟨b, h, _⟩ := inB.two hl hl; exact h.elim
    · have : A.N0 ≤ k := hl.1
      omega
    · exact hc.ti.ct.free l (fun h => hs (h.imp fun b hb => .inl hb)) fun k k1 kj => ⟨fun h => by obtain ⟨b, h, _⟩ := inB.two h h; omega, fun h => by obtain ⟨b, h, _⟩ := inB.two h.2 h.2; exact h.elim⟩
    · exact hc.ti.ct.mine l (fun h => hs (h.imp fun b hb => .inl hb)) fun k k1 kj h => by obtain ⟨b, h, _⟩ := inB.two h h; omega
    · by_cases h0 : k = 0
      · subst h0; exact hc.hear
      · rw [x0 k h0]
    · exact absurd (show (x k).seat = .quit by rw [x0 k (by omega)]) hq
    · have hquit : ∀ k, k ≠ 0 → (x k).seat = .quit := fun k hk => by rw [x0 k hk]
      show A.Grp gs.size (fun k => (x k).seat) w t
      have hcn : A.cnt gs.size (fun k => (x k).seat) = 0 := by
        unfold Par.cnt
        rw [hN, Nat.sub_self]
        rfl
      refine ⟨hn, by omega, ⟨.a1 3, 0, 0, .inl rfl, trivial, by rw [hN]; rfl, hW, ?_, fun e => by cases e⟩, fun k k1 _ => hquit k (by omega), fun k k1 kN => by omega, ⟨fun _ => 0, ?_, fun k k1 kN => by omega⟩, ⟨fun k k1 kN => by omega, hnr, fun i g hg h0 _ hcc => hc.over i g hg h0 hcc, fun i op z ho hz h0 _ hs => ?_⟩, fun k hk => hquit k (by omega)⟩
      · have := Md.opn (A := A) (N := gs.size) (se := fun k => (x k).seat) (s := .a1 3) trivial rfl (fun k k1 kN => by omega) fun vs e => by cases e
        rw [hcn] at this
        simpa [Ft.pend] using this
      · rw [hN, Nat.sub_self]; exact hB
      · exact hc.ti.ct.free z.loc hs (fun k k1 kj => ⟨fun h => by obtain ⟨b, h, _⟩ := inB.two h h; omega, fun h => by obtain ⟨b, h, _⟩ := inB.two h.2 h.2; exact h.elim⟩) i z (by rw [touchAt_of ho]; exact hz) rfl
    · show gs.size ≤ A.N0 + 3 + 1
      omega
    · by_cases h0 : k = 0
      · exact ⟨by have := hc.pos; omega, .inl h0⟩
      · rw [x0 k h0] at hb; exact hb.elim
  refine T.law (team_ok hn) K hback (fun s => s = .fin) (fun gs' w' sl' t' x' s hp' hs' hfs hS => ?_) (fun gs' w' sl' m t' x' i s g hp' hi hs' hnf hS hst ih => ?_) x gs w sl t hp
  · subst hfs
    have hG : A.Grp gs'.size (fun k => (x' k).seat) w' t' := hp'.pm
    obtain ⟨s1, st, sm, g1, g2, g3, g4, g5, g6⟩ := hG.mainS
    have hs1 : s1 = .fin := by rcases g1 with e | ⟨e, _⟩ <;> (have e' := hs'; rw [show (x' 0).seat = _ from e] at e'; cases e' <;> rfl)
    subst hs1
    have hacq := g6 rfl
    have hsz : gs'.size = A.N0 + 4 := g3
    have hq : ∀ k, A.N0 ≤ k → k < gs'.size → (x' k).seat = .quit := by
      cases g5 with
      | opn ho => exact ho.elim
      | fin _ _ ho => exact ho
    have hqa : ∀ k, k ≠ 0 → k < gs'.size → (x' k).seat = .quit := fun k h0 hk => by
      rcases Nat.lt_or_ge k A.N0 with h | h
      · exact hG.old k (by omega) h
      · exact hq k h hk
    have h0' : 0 < gs'.size := hp'.pos
    have hSt := hS gs'[0] (Array.getElem?_eq_getElem h0')
    have hd : (x' 0).deaf = 0 := (hF _ _ _ _ (hSt w' (EnvT.refl ryA _ _)).2).1
    have hfree : ∀ l, ¬ inB (fun b => A.S0 b ∨ b = A.Wg) l → Perm t' 0 l := by
      intro l hs i z hz hzl
      obtain ⟨op, hop, hox⟩ := touch_of hz
      rcases Nat.eq_zero_or_pos op.g with h0 | h0
      · have := knows_own hop; rw [h0] at this; exact this
      · rcases Nat.lt_or_ge op.g A.N0 with h | h
        · exact hG.tr.knew i op z hop hox (by omega) h fun hh => hs (hzl ▸ hh.imp fun b hb => .inl hb)
        · have hle := hp'.ti.ct.gs i op hop
          obtain ⟨r, qq, h1, h2, h3⟩ := acq_edge hacq hG.tr.norel h (by omega)
          have hir : i ≤ r := Nat.le_of_not_lt fun hlt => hs (by
            have := h1.2 i op z hlt hop rfl hox
            rw [hzl] at this
            exact this.imp fun b hb => .inr hb)
          obtain ⟨y, hy, hyg⟩ := Option.map_eq_some_iff.1 h2
          exact ⟨qq, y, hy, hyg, .inr (h3 i (by simp [Trace.g?, hop]) hir)⟩
    refine hfin gs' w' sl' t' (fun k => if h : k ≠ 0 ∧ k < gs'.size then (show ∃ n, (x' k).rank = Rk.nat n ∧ QuitsD A.P n (x' k).deaf gs'[k] from by
        have h4 := hp'.sits k _ (Array.getElem?_eq_getElem h.2)
        unfold Team.Sits at h4
        rw [hqa k h.1 h.2] at h4
        exact h4.2).choose else 0) gs'[0] (x' 0).own ⟨fun i g h0 hi => ?_, ?_, ⟨⟨?_, fun k k1 _ l hl => ?_, fun k _ _ l hl => ?_, fun l hs _ => hfree l hs, fun l hs _ => PermW.of (hfree l hs), hp'.ti.ct.nr, hp'.ti.ct.gs⟩, hp'.ti.seen⟩, ?_, hp'.pos, fun i g hg h0 hcc => ?_⟩ hsz (Array.getElem?_eq_getElem h0') (fun b hb => ⟨hp'.ge.lt 0 b hb, hp'.ge.sh 0 b hb⟩) ?_ hp'.live (fun w₁ hw => ?_)
    · have hil : i < gs'.size := (Array.getElem?_eq_some_iff.1 hi).1
      obtain rfl : gs'[i] = g := (Array.getElem?_eq_some_iff.1 hi).2
      rw [dif_pos ⟨h0, hil⟩, hp'.deaf i hil]
      exact Exists.choose_spec (p := fun n => (x' i).rank = Rk.nat n ∧ QuitsD A.P n (x' i).deaf gs'[i]) _ |>.2
    · exact ⟨fun _ _ h => h.2.elim, fun _ _ _ h => h.2.elim, fun _ _ h => h.2.elim, fun _ _ h => h.2.elim, fun b hb => hp'.ge.shlt b (hb.elim .inl fun h => .inr (.inl h)), fun _ h => h.elim, fun _ h => h.elim⟩
    · intro i op z ho hz hs
      exact hp'.ti.ct.quiet i op z ho hz (hs.imp fun b hb => hb.elim .inl fun h => .inr (.inl h))
    · obtain ⟨b, h, _⟩ := inB.two hl hl; exact h.2.elim
    · obtain ⟨b, h, _⟩ := inB.two hl.2 hl.2; exact h.elim
    · rw [hp'.deaf 0 h0', hd]
    · rcases Nat.lt_or_ge g A.N0 with h | h
      · exact hG.tr.over i g hg h0 h hcc
      · obtain ⟨op, hop, hog⟩ := Option.map_eq_some_iff.1 hg
        have hle := hp'.ti.ct.gs i op hop
        obtain ⟨r, qq, h1, h2, h3⟩ := acq_edge hacq hG.tr.norel h (by omega)
        exact ⟨qq, h2, h3 i hg (Nat.le_of_not_lt fun hlt => h1.1.after i hlt hg hcc)⟩
    · obtain ⟨c, hc1, hc2⟩ := hG.sums
      have hcs : ∀ j, j < 4 → (c (A.N0 + j) = 0 ↔ A.gd j) := fun j hj => by
        have := (hc2 (A.N0 + j) (by omega) (by omega)).2.2 fun r e => by rw [show (fun k => (x' k).seat) (A.N0 + j) = _ from hq (A.N0 + j) (by omega) (by omega)] at e; cases e
        rw [show A.N0 + j - A.N0 = j by omega] at this
        exact this
      refine ⟨_, hc1, fun hv k hk => ?_, fun hg => ?_⟩
      · have h1 : sumTo (gs'.size - A.N0) (fun i => c (A.N0 + i)) = 0 := by omega
        have h2 := le_sumTo (f := fun i => c (A.N0 + i)) (i := k) (j := gs'.size - A.N0) (by omega)
        exact (hcs k hk).1 (by omega)
      · have : sumTo (gs'.size - A.N0) (fun i => c (A.N0 + i)) = 0 := sumTo_zero fun j hj => (hcs j (by omega)).2 (hg j (by omega))
        omega
    · have := (hSt w₁ hw).2
      rw [hd] at this
      exact this
  · have hAt : A.At Anch FinS K gs' w' sl' m t' x' i g s := ⟨hn, ne, hbnd, hback, hp', hi, hs', hst, ih⟩
    have hG : A.Grp gs'.size (fun k => (x' k).seat) w' t' := hp'.pm
    have hS0 : A.stop Anch FinS i s (x' i).own (x' i).deaf g w' := hS w' (EnvT.refl ryA _ _)
    rcases hG.who hAt.lt hs' with ⟨h0, hm⟩ | ⟨h0, _⟩
    · subst h0
      cases s with
      | a1 r => exact hAt.add1 rfl hS0
      | go r =>
        have g3 := (hAt.openSt trivial).1
        have g3' : gs'.size + (r + 1) = A.N0 + 4 := g3
        cases r with
        | zero => exact hAt.spawn (s' := .w1) (k := 3) rfl trivial trivial rfl (fun vs e => by cases e) rfl (fun v hv => by simp only [Ft.weigh]; omega) (by omega) (fun _ _ _ _ h => h) hS0
        | succ r =>
          refine hAt.spawn (s' := .a1 r) (k := 2 - r) rfl trivial trivial rfl (fun vs e => by cases e) rfl (fun v hv => ?_) (by have := hG.lo; omega) (fun _ _ _ _ h => h) hS0
          simp only [Ft.weigh]
          have : (A.bnd + 100) * (2 * (r + 1) + 1) = (A.bnd + 100) * (2 * r + 2) + (A.bnd + 100) := by rw [show 2 * (r + 1) + 1 = (2 * r + 2) + 1 by omega, Nat.mul_succ]
          omega
      | w1 => exact hAt.wait1 rfl hS0
      | w2 vs => exact hAt.wait2 rfl hAn hS0
      | w3 => exact hAt.wait3 rfl fun w₁ h₁ => hS w₁ h₁
      | w4 => exact hAt.wait4 rfl hS0
      | acq => exact hAt.acquire rfl (fun _ _ _ _ h => (hF _ _ _ _ h).2) hS0
      | fin => exact absurd ⟨rfl, rfl⟩ hnf
      | _ => exact hm.elim
    · exact hAt.work h0 hS0
end Par
end Go.Proofs.Ytgfgoflhmikalaa.par

namespace Go.Proofs.Ytgfgoflhmikalaa.par
open Go Go.Conc
abbrev link : Go.Conc.Lib.WgLink := { add := 43, done := 45, wait := 48, relMerge := 54, disable := 55, enable := 56, inBubble := 57, associate := 58, fatal := 59, uOr := 60, uAdd := 61, raceRead := 62, uLoad := 63, uStore := 64, disassociate := 65, semrelease := 66, acquire := 68, isAssociated := 69, uCas := 70, raceWrite := 71, semacquire := 72, orU64 := 78, addU64 := 79, loadU64 := 80, storeU64 := 81, casU64 := 82, tWgP := 110, tUP := 93, tAssoc := 112, tWg := 85, tAU := 83, tU64 := 49, tUint := 96, tU32 := 61, tPU32 := 116, tPAU := 130, tPU64 := 132, tNoCopy := 79, tANoCopy := 80, tAlign64 := 81 }
theorem wgLib : Go.Conc.Lib.WgLib Try.prog link :=
  ⟨Try.func43, Try.func45, Try.func48, Try.func54, Try.func55, Try.func56, Try.func57, Try.func58, Try.func59, Try.func60, Try.func61, Try.func62, Try.func63, Try.func64, Try.func65, Try.func66, Try.func68, Try.func69, Try.func70, Try.func71, Try.func72, Try.func78, Try.func79, Try.func80, Try.func81, Try.func82, Try.underlying110, Try.runUnderlying110, Try.sizeOf110, Try.isAgg110, Try.zeroValue110, Try.underlying93, Try.runUnderlying93, Try.sizeOf93, Try.isAgg93, Try.zeroValue93, Try.underlying112, Try.runUnderlying112, Try.sizeOf112, Try.isAgg112, Try.zeroValue112, Try.underlying85, Try.runUnderlying85, Try.sizeOf85, Try.isAgg85, Try.zeroValue85, Try.underlying83, Try.runUnderlying83, Try.sizeOf83, Try.isAgg83, Try.zeroValue83, Try.underlying49, Try.runUnderlying49, Try.sizeOf49, Try.isAgg49, Try.zeroValue49, Try.underlying96, Try.runUnderlying96, Try.sizeOf96, Try.isAgg96, Try.zeroValue96, Try.underlying61, Try.runUnderlying61, Try.sizeOf61, Try.isAgg61, Try.zeroValue61, Try.underlying116, Try.runUnderlying116, Try.sizeOf116, Try.isAgg116, Try.zeroValue116, Try.underlying130, Try.runUnderlying130, Try.sizeOf130, Try.isAgg130, Try.zeroValue130, Try.underlying132, Try.runUnderlying132, Try.sizeOf132, Try.isAgg132, Try.zeroValue132, Try.underlying0, Try.runUnderlying0, Try.sizeOf0, Try.isAgg0, Try.zeroValue0, Try.underlying3, Try.runUnderlying3, Try.sizeOf3, Try.isAgg3, Try.zeroValue3, Try.underlying4, Try.runUnderlying4, Try.sizeOf4, Try.isAgg4, Try.zeroValue4, Try.underlying9, Try.runUnderlying9, Try.sizeOf9, Try.isAgg9, Try.zeroValue9, Try.underlying20, Try.runUnderlying20, Try.sizeOf20, Try.isAgg20, Try.zeroValue20, Try.underlying21, Try.runUnderlying21, Try.sizeOf21, Try.isAgg21, Try.zeroValue21, (by kernel_rfl), (by kernel_rfl)⟩

end Go.Proofs.Ytgfgoflhmikalaa.par

namespace Go.Proofs.Ytgfgoflhmikalaa.par
open Go Go.Conc Go.RowKit Go.Conc.Lib Go.ConcR.Gen Go.ConcN.Gen
open Go.ConcR (DC0)
set_option linter.unusedVariables false
section
variable {P : Program} {b : Frame} {a : Act} {k : List Item} {cs : List Frame} {n d : Nat}
theorem q_seq {x y : Code} (h : QuitsD P n d (G (b.at a (.code x :: .code y :: k)) cs)) : QuitsD P (n + 1) d (G (b.at a (.code (.seq x y) :: k)) cs) := .ctl rfl (fun _ => stepG_seq) h
theorem q_codeskip (h : QuitsD P n d (G (b.at a k) cs)) : QuitsD P (n + 1) d (G (b.at a (.code .skip :: k)) cs) := .ctl rfl (fun _ => stepG_skip) h
theorem q_block {id : Nat} {c : Code} (h : QuitsD P n d (G (b.at a (.code c :: .inBlock id :: k)) cs)) : QuitsD P (n + 1) d (G (b.at a (.code (.block id c) :: k)) cs) := .ctl rfl (fun _ => stepG_block) h
theorem q_inBlock {id : Nat} (h : QuitsD P n d (G (b.at a k) cs)) : QuitsD P (n + 1) d (G (b.at a (.inBlock id :: k)) cs) := .ctl rfl (fun _ => stepG_inBlock) h
theorem q_loop {c : Code} (h : QuitsD P n d (G (b.at a (.code c :: .inLoop c :: k)) cs)) : QuitsD P (n + 1) d (G (b.at a (.code (.loop c) :: k)) cs) := .ctl rfl (fun _ => stepG_loop) h
theorem q_inLoop {c : Code} (h : QuitsD P n d (G (b.at a (.code c :: .inLoop c :: k)) cs)) : QuitsD P (n + 1) d (G (b.at a (.inLoop c :: k)) cs) := .ctl rfl (fun _ => stepG_inLoop) h
theorem q_exitc {id : Nat} {k' : List Item} (hx : exitTo id k = some k') (h : QuitsD P n d (G (b.at a k') cs)) : QuitsD P (n + 1) d (G (b.at a (.code (.exit id) :: k)) cs) := .ctl rfl (fun _ => stepG_exit hx) h
theorem q_region {id : Nat} {ops : Array Oper} (h : QuitsD P n d (G (b.at a (.inRegion ops (List.range ops.size) :: k)) cs)) : QuitsD P (n + 1) d (G (b.at a (.code (.region id ops false) :: k)) cs) := .ctl rfl (fun _ => stepG_region) h
theorem q_regend {ops : Array Oper} (h : QuitsD P n d (G (b.at a k) cs)) : QuitsD P (n + 1) d (G (b.at a (.inRegion ops [] :: k)) cs) := .ctl rfl (fun _ => stepG_region_end) h
theorem q_cod {c : Operand} {x y : Code} {t : Bool} (hc : a.eval c = .bool t) (h : QuitsD P n d (G (b.at a (.code (if t then x else y) :: k)) cs)) : QuitsD P (n + 1) d (G (b.at a (.code (.cond c x y) :: k)) cs) := .ctl rfl (fun _ => stepG_cond hc) h
theorem q_ret (h : QuitsD P n d (G { b.at a (.code .ret :: k) with mode := .returning } cs)) : QuitsD P (n + 1) d (G (b.at a (.code .ret :: k)) cs) := .ctl rfl (fun _ => stepG_ret') h
theorem q_ended (h : QuitsD P n d (G { b.at a [] with mode := .returning } cs)) : QuitsD P (n + 1) d (G (b.at a []) cs) := .ctl rfl (fun _ => stepG_end) h
theorem q_value {ops : Array Oper} {i : Nat} {rest : List Nat} {o : Oper} {v : Value} (ho : ops[i]? = some o) (hw : Region.wanted o (yielded ops a.tmps) = true) (hk : b.kind ≠ .early)
    (hr : ∀ w, (execOp a.eval o).run P w = .ok (.value v) w) (he : ∀ w, (execOp a.eval o).events P w #[] = #[])
    (hq : QuitsD P n d (G (b.at (a.put o.dst v) (.inRegion ops rest :: k)) cs)) : QuitsD P (n + 1) d (G (b.at a (.inRegion ops (i :: rest) :: k)) cs) := .value v ho hw hk hr he hq
theorem q_unwanted {ops : Array Oper} {i : Nat} {rest : List Nat} {o : Oper} (ho : ops[i]? = some o) (hw : Region.wanted o (yielded ops a.tmps) = false)
    (hq : QuitsD P n d (G (b.at (a.put o.dst undef) (.inRegion ops rest :: k)) cs)) : QuitsD P (n + 1) d (G (b.at a (.inRegion ops (i :: rest) :: k)) cs) := .unwanted ho hw hq
theorem q_wanted {ops : Array Oper} {i : Nat} {rest : List Nat} {o : Oper} (ho : ops[i]? = some o) (h : ∀ t, Region.wanted o (yielded ops a.tmps) = t → QuitsD P n d (G (b.at a (.inRegion ops (i :: rest) :: k)) cs)) : QuitsD P n d (G (b.at a (.inRegion ops (i :: rest) :: k)) cs) := h _ rfl
theorem q_up {P : Program} : ∀ {n m d : Nat} {g : Goroutine}, QuitsD P n d g → n ≤ m → QuitsD P m d g := by
  intro n
  induction n with
  | zero =>
    intro m d g h _
    cases m with
    | zero => exact h
    | succ m => exact .inl h
  | succ n ih =>
    intro m d g h hl
    cases m with
    | zero => omega
    | succ m =>
      rcases h with h | ⟨a, g', es, b, c, e⟩
      · exact .inl h
      · exact .inr ⟨a, g', es, b, c, ih e (by omega)⟩
/-- In every world of which I holds: a walk within D, while the others keep I. -/
def GoD (P : Program) (main : Bool) (I : World → Prop) (D : World → World → Array Event → Prop) (S : Goroutine → World → Prop) (n : Nat) (g : Goroutine) : Prop := ∀ w, I w → Goes P main (fun w w₁ => I w → I w₁) D S n g w
/-- .. that lists nothing and turns nothing. -/
abbrev GoI (P : Program) (main : Bool) (I : World → Prop) (S : Goroutine → World → Prop) (n : Nat) (g : Goroutine) : Prop := GoD P main I DC0 S n g
/-- What is asked of each step lets one be silent. -/
class Still (D : World → World → Array Event → Prop) : Prop where
  still : ∀ w, D w w #[]
instance : Still DC0 := ⟨fun _ => ⟨rfl, rfl⟩⟩
section
variable {main : Bool} {I : World → Prop} {D : World → World → Array Event → Prop} [Still D] {S : Goroutine → World → Prop}
omit [Still D] in
theorem GoD.halt {g : Goroutine} (h : ∀ w, I w → S g w) : GoD P main I D S n g := fun w hw => Goes.stop fun w₁ h₁ => h w₁ (h₁ hw)
theorem GoD.more {g g' : Goroutine} (hr : g.status = .running) (hs : ∀ w, I w → stepG P main g w = .go g' w #[]) (h : GoD P main I D S n g') : GoD P main I D S (n + 1) g := fun w hw => Goes.step hr fun w₁ h₁ => by
  rw [hs w₁ (h₁ hw), goes_go]
  exact ⟨Still.still _, h w₁ (h₁ hw)⟩
theorem gi_seq {x y : Code} (h : GoD P main I D S n (G (b.at a (.code x :: .code y :: k)) cs)) : GoD P main I D S (n + 1) (G (b.at a (.code (.seq x y) :: k)) cs) := .more rfl (fun _ _ => stepG_seq) h
theorem gi_codeskip (h : GoD P main I D S n (G (b.at a k) cs)) : GoD P main I D S (n + 1) (G (b.at a (.code .skip :: k)) cs) := .more rfl (fun _ _ => stepG_skip) h
theorem gi_block {id : Nat} {c : Code} (h : GoD P main I D S n (G (b.at a (.code c :: .inBlock id :: k)) cs)) : GoD P main I D S (n + 1) (G (b.at a (.code (.block id c) :: k)) cs) := .more rfl (fun _ _ => stepG_block) h
theorem gi_inBlock {id : Nat} (h : GoD P main I D S n (G (b.at a k) cs)) : GoD P main I D S (n + 1) (G (b.at a (.inBlock id :: k)) cs) := .more rfl (fun _ _ => stepG_inBlock) h
theorem gi_loop {c : Code} (h : GoD P main I D S n (G (b.at a (.code c :: .inLoop c :: k)) cs)) : GoD P main I D S (n + 1) (G (b.at a (.code (.loop c) :: k)) cs) := .more rfl (fun _ _ => stepG_loop) h
theorem gi_inLoop {c : Code} (h : GoD P main I D S n (G (b.at a (.code c :: .inLoop c :: k)) cs)) : GoD P main I D S (n + 1) (G (b.at a (.inLoop c :: k)) cs) := .more rfl (fun _ _ => stepG_inLoop) h
theorem gi_exitc {id : Nat} {k' : List Item} (hx : exitTo id k = some k') (h : GoD P main I D S n (G (b.at a k') cs)) : GoD P main I D S (n + 1) (G (b.at a (.code (.exit id) :: k)) cs) := .more rfl (fun _ _ => stepG_exit hx) h
theorem gi_region {id : Nat} {ops : Array Oper} (h : GoD P main I D S n (G (b.at a (.inRegion ops (List.range ops.size) :: k)) cs)) : GoD P main I D S (n + 1) (G (b.at a (.code (.region id ops false) :: k)) cs) := .more rfl (fun _ _ => stepG_region) h
theorem gi_regend {ops : Array Oper} (h : GoD P main I D S n (G (b.at a k) cs)) : GoD P main I D S (n + 1) (G (b.at a (.inRegion ops [] :: k)) cs) := .more rfl (fun _ _ => stepG_region_end) h
theorem gi_cod {c : Operand} {x y : Code} {t : Bool} (hc : a.eval c = .bool t) (h : GoD P main I D S n (G (b.at a (.code (if t then x else y) :: k)) cs)) : GoD P main I D S (n + 1) (G (b.at a (.code (.cond c x y) :: k)) cs) := .more rfl (fun _ _ => stepG_cond hc) h
theorem gi_ret (h : GoD P main I D S n (G { b.at a (.code .ret :: k) with mode := .returning } cs)) : GoD P main I D S (n + 1) (G (b.at a (.code .ret :: k)) cs) := .more rfl (fun _ _ => stepG_ret') h
theorem gi_ended (h : GoD P main I D S n (G { b.at a [] with mode := .returning } cs)) : GoD P main I D S (n + 1) (G (b.at a []) cs) := .more rfl (fun _ _ => stepG_end) h
theorem gi_value {ops : Array Oper} {i : Nat} {rest : List Nat} {o : Oper} {v : Value} (ho : ops[i]? = some o) (hw : Region.wanted o (yielded ops a.tmps) = true) (hk : b.kind ≠ .early)
    (hr : ∀ w, I w → (execOp a.eval o).run P w = .ok (.value v) w) (he : ∀ w, I w → (execOp a.eval o).events P w #[] = #[])
    (hq : GoD P main I D S n (G (b.at (a.put o.dst v) (.inRegion ops rest :: k)) cs)) : GoD P main I D S (n + 1) (G (b.at a (.inRegion ops (i :: rest) :: k)) cs) :=
  .more rfl (fun w hI => by rw [stepG_value ho hw hk (hr w hI)]; unfold listed; rw [he w hI, seen_none]) hq
theorem gi_unwanted {ops : Array Oper} {i : Nat} {rest : List Nat} {o : Oper} (ho : ops[i]? = some o) (hw : Region.wanted o (yielded ops a.tmps) = false)
    (hq : GoD P main I D S n (G (b.at (a.put o.dst undef) (.inRegion ops rest :: k)) cs)) : GoD P main I D S (n + 1) (G (b.at a (.inRegion ops (i :: rest) :: k)) cs) := .more rfl (fun _ _ => stepG_unwanted ho hw) hq
theorem gi_defer {ops : Array Oper} {i : Nat} {rest : List Nat} {o : Oper} {f : FuncId} {ars : Array Operand} {ats : Array TypeId} (ho : ops[i]? = some o) (hw : Region.wanted o (yielded ops a.tmps) = true) (hk : b.kind ≠ .early)
    (hop : o.op = .defer { callee := .value (.func f), args := ars, argTypes := ats })
    (hq : GoD P main I D S n (G (b.at (Act.put ⟨a.tmps, dcall f (ars.map a.eval) :: a.defers⟩ o.dst undef) (.inRegion ops rest :: k)) cs)) : GoD P main I D S (n + 1) (G (b.at a (.inRegion ops (i :: rest) :: k)) cs) := .more rfl (fun _ _ => stepG_defer ho hw hk hop) hq
theorem gi_pure {ops : Array Oper} {i : Nat} {rest : List Nat} {o : Oper} {f : FuncId} {fn : Func} {ars : Array Operand} {ats : Array TypeId} (v : Value) (ho : ops[i]? = some o) (hw : Region.wanted o (yielded ops a.tmps) = true) (hk : b.kind ≠ .early) (hop : o.op = .call { callee := .value (.func f), args := ars, argTypes := ats })
    (hf : P.funcs[f]? = some fn) (hname : (fn.name == "runtime.NumGoroutine") = false) (hb : fn.body.isNone = true) (hn : Extern.findNext fn = none) (he : Extern.find fn = some (fun _ => pure v))
    (hq : GoD P main I D S n (G (b.at (a.put o.dst v) (.inRegion ops rest :: k)) cs)) : GoD P main I D S (n + 1) (G (b.at a (.inRegion ops (i :: rest) :: k)) cs) := .more rfl (fun _ _ => stepG_entry_pure v ho hw hk hop hf hname hb hn he) hq
theorem gi_call {ops : Array Oper} {i : Nat} {rest : List Nat} {o : Oper} {f : FuncId} {fn : Func} {c : Code} {args : Array Operand} {ats : Array TypeId}
    (ho : ops[i]? = some o) (hw : Region.wanted o (yielded ops a.tmps) = true) (hk : b.kind ≠ .early) (hop : o.op = .call { callee := .value (.func f), args, argTypes := ats })
    (hf : P.funcs[f]? = some fn) (hname : (fn.name == "runtime.NumGoroutine") = false) (hb : fn.body = some c)
    (hq : GoD P main I D S n (G ((base f).at { tmps := args.map a.eval ++ Array.replicate (fn.ntmps - (args.map a.eval).size) undef, defers := [] } [.code c]) (b.at a (.inRegion ops (i :: rest) :: k) :: cs))) : GoD P main I D S (n + 1) (G (b.at a (.inRegion ops (i :: rest) :: k)) cs) :=
  fun w hw' => Goes.step rfl fun w₁ h₁ => goes_call ho hw hk hop hf hname hb ⟨Still.still _, hq w₁ (h₁ hw')⟩
variable {b₀ : Frame} {a₀ : Act}
theorem gi_leave0 {ops : Array Oper} {i : Nat} {rest : List Nat} {fn : Func} {todo : List Item} (hn : b.kind = .normal) (hd : a.defers = []) (hf : P.funcs[b.fn]? = some fn) (hr : fn.results = #[])
    (hq : GoD P main I D S n (G (b₀.at (a₀.put ((ops[i]?).bind (·.dst)) (.tuple #[])) (.inRegion ops rest :: k)) cs)) : GoD P main I D S (n + 1) (G { b.at a todo with mode := .returning } (b₀.at a₀ (.inRegion ops (i :: rest) :: k) :: cs)) :=
  fun w hw' => Goes.step rfl fun w₁ h₁ => goes_leave0 hn hd hf hr ⟨Still.still _, hq w₁ (h₁ hw')⟩
theorem gi_leave1 {ops : Array Oper} {i : Nat} {rest : List Nat} {fn : Func} {todo : List Item} {t : Tmp} (hn : b.kind = .normal) (hd : a.defers = []) (hf : P.funcs[b.fn]? = some fn) (hr : fn.results = #[.tmp t])
    (hq : GoD P main I D S n (G (b₀.at (a₀.put ((ops[i]?).bind (·.dst)) (a.tmps.getD t undef)) (.inRegion ops rest :: k)) cs)) : GoD P main I D S (n + 1) (G { b.at a todo with mode := .returning } (b₀.at a₀ (.inRegion ops (i :: rest) :: k) :: cs)) :=
  fun w hw' => Goes.step rfl fun w₁ h₁ => goes_leave1 hn hd hf hr ⟨Still.still _, hq w₁ (h₁ hw')⟩
theorem gi_conv {ops : Array Oper} {i : Nat} {rest : List Nat} {o : Oper} {src dst t : TypeId} {x : Operand} {ad : Addr} (hs : P.underlying src = some (.pointer t)) (hds : P.underlying dst = some .unsafePointer) (hsz : (P.info? t).map (fun i => decide (i.size = 0)) = some false) (hc : ∀ w, I w → ∃ v, w.cell? ad = some v)
    (ho : ops[i]? = some o) (hw : Region.wanted o (yielded ops a.tmps) = true) (hk : b.kind ≠ .early) (hop : o.op = .convert src dst x) (hx : a.eval x = .pointer (some ad))
    (hq : GoD P main I D S n (G (b.at (a.put o.dst (.pointer (some ad))) (.inRegion ops rest :: k)) cs)) : GoD P main I D S (n + 1) (G (b.at a (.inRegion ops (i :: rest) :: k)) cs) := by
  refine gi_value ho hw hk (fun w hI => ?_) (fun w hI => ?_) hq
  · obtain ⟨v, hv⟩ := hc w hI
    have hcv := run_convert_to_unsafe (P := P) hs hds hsz hv
    unfold execOp
    simp [hop, hx, hcv]
  · obtain ⟨v, hv⟩ := hc w hI
    have hce := fun es => events_convert_to_unsafe (P := P) hs hds hsz hv es
    unfold execOp
    simp [hop, hx, hce]
omit [Still D] in
/-- A step that looks. -/
theorem gi_look {ops : Array Oper} {i : Nat} {rest : List Nat} {o : Oper} {v : Value} (ho : ops[i]? = some o) (hw : Region.wanted o (yielded ops a.tmps) = true) (hk : b.kind ≠ .early)
    (hr : ∀ w, I w → (execOp a.eval o).run P w = .ok (.value v) w) (he : ∀ w, I w → D w w (seen P b.fn ((execOp a.eval o).events P w #[])))
    (hq : GoD P main I D S n (G (b.at (a.put o.dst v) (.inRegion ops rest :: k)) cs)) : GoD P main I D S (n + 1) (G (b.at a (.inRegion ops (i :: rest) :: k)) cs) :=
  fun w hw' => Goes.step rfl fun w₁ h₁ => by
    rw [stepG_value ho hw hk (hr w₁ (h₁ hw')), goes_go]
    exact ⟨he w₁ (h₁ hw'), hq w₁ (h₁ hw')⟩
omit [Still D] in
/-- A region that draws its order. -/
theorem gi_draw {id : Nat} {ops : Array Oper} (hD : ∀ w : World, D w { w with drawn := w.drawn + 1 } #[]) (hI : ∀ w : World, I w → I { w with drawn := w.drawn + 1 })
    (h : ∀ t, GoD P main I D S n (G (b.at a (.inRegion ops (Region.schedule (P.follows .mixedOrders) ops t) :: k)) cs)) : GoD P main I D S (n + 1) (G (b.at a (.code (.region id ops true) :: k)) cs) :=
  fun w hw' => Goes.step rfl fun w₁ h₁ => by
    rw [stepG_region_draw]
    exact ⟨hD _, h _ _ (hI _ (h₁ hw'))⟩
omit [Still D] in
theorem GoD.stepD {g : Goroutine} (hr : g.status = .running) (h : ∀ w, I w → ∃ g' w' es, stepG P main g w = .go g' w' es ∧ D w w' es ∧ I w' ∧ GoD P main I D S n g') : GoD P main I D S (n + 1) g := fun w hw => Goes.step hr fun w₁ h₁ => by
  obtain ⟨g', w', es, h1, h2, h3, h4⟩ := h w₁ (h₁ hw)
  rw [h1, goes_go]
  exact ⟨h2, h4 w' h3⟩
end
end
end Go.Proofs.Ytgfgoflhmikalaa.par
