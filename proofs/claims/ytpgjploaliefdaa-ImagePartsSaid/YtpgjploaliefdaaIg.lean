/- The closures of image.Dump. No conditions. -/
import Derived.Test.YtpgjploaliefdaaIf
namespace Go.Proofs.Ytpgjploaliefdaa.im
open Go Go.RowKit Go.Proofs.Ytpgjploaliefdaa.cm Go.Proofs.Ytpgjploaliefdaa.cw Go.Proofs.Ytpgjploaliefdaa.ga Go.Proofs.Ytpgjploaliefdaa.gr Go.Proofs.Ytpgjploaliefdaa.hp Go.Proofs.Ytpgjploaliefdaa.ob Go.Proofs.Ytpgjploaliefdaa.hd Go.Proofs.Ytpgjploaliefdaa.cp Go.Proofs.Ytpgjploaliefdaa.ck
open Go.Proofs.Ytpgjploaliefdaa.fr (strB putN rowN row_any put_any strB_size putN_10)
set_option linter.unusedVariables false
set_option linter.unusedSimpArgs false
set_option maxRecDepth 100000
set_option maxHeartbeats 4000000
theorem chain_len {len : Nat} : ∀ {pos : Nat} {l : List Ob}, ChainO len pos l → pos + l.length ≤ len
  | pos, [], h => by
    have : pos = len := h
    simp
    omega
  | pos, o :: l, ⟨h1, h2, h3, h4⟩ => by
    have := chain_len h4
    rw [List.length_cons]
    omega
theorem newF_tg {zs : List Int} {l : List Ob} {k : Nat} (hz : ∀ i, 0 ≤ zs.getD i 0 ∧ zs.getD i 0 < 18446744073709551616) (h : newF zs = .ok l k) : ∀ o ∈ l, 0 ≤ o.t ∧ o.t < 18446744073709551616 := by
  refine walkF_tg hz (fun k pos x o k' hx hb => ?_) (acc := []) (fun o ho => by simp at ho) h
  unfold bgN at hb
  split at hb
  · cases hb
    exact ⟨Int.le_refl _, (show (0 : Int) < 18446744073709551616 by decide)⟩
  · cases hb
theorem found_tg {h : Hp} {s : Fnd} (f : Go.Proofs.Ytpgjploaliefdaa.cp.Found h s) (z1 : Small h.low) (z2 : Small h.high) (z3 : Small h.old) (z4 : Small h.far) (q : Nat) (hq : 1 ≤ q ∧ q ≤ 4) : TgB (s.obs q) := by
  obtain ⟨⟨k1, e1⟩, ⟨k2, e2⟩, ⟨k3, e3⟩, ⟨k4, e4⟩, e5, e6⟩ := f
  rcases (show q = 1 ∨ q = 2 ∨ q = 3 ∨ q = 4 by omega) with rfl | rfl | rfl | rfl
  · exact newF_tg z1 e1
  · exact newF_tg z2 e2
  · exact oldF_tg z3 e3
  · exact oldF_tg z4 e4
/-- A heap in a variable. -/
def hpCells (h : Hp) (v : Hv) : Array Value := #[.int .u64 h.base, .int .i64 h.cap, .int .i64 h.tt, .bool h.cyc, .int .i64 h.scan, v.l, v.h, v.o, v.f, v.r]
theorem mk_any (q : Int) (ad : Option Addr) (n c hb : Nat) (W : World) :
    Calls Try.prog 17 #[.int .i64 q, .slice ad n c, .pointer (some ⟨hb, 0, none⟩)] W fun e w' => e = .returned (.func (.func 18) #[] #[.pointer (some ⟨hb, 0, none⟩), .pointer (some ⟨W.heap.size, 0, none⟩), .pointer (some ⟨W.heap.size + 1, 0, none⟩)]) ∧ w' = (W.alloc (.cells #[.int .i64 q] 3)).alloc (.cells #[.slice ad n c] 22) := by
  go_enter Try.func17, Try.ntmps17
  go_wp2_with fail
  go_ret
  exact ⟨rfl, rfl⟩
theorem c2_any (h : Hp) (v : Hv) (hb : Nat) (W : World) (hin : HIn W h v) (K : Blk W hb (hpCells h v) 40) (hc0 : 0 ≤ h.cap) (ht0 : 0 ≤ h.tt) (hs0 : 0 ≤ h.scan) :
    Calls Try.prog 20 #[.pointer (some ⟨hb, 0, none⟩)] W fun e w' => e = .returned (.tuple #[.string (strB (rowN (headN h))), .int .i64 0]) ∧ Below W.heap.size W w' := by
  have HC := Lib.hid (head_any h v W hin hc0 ht0 hs0)
  obtain ⟨la, lc, e1⟩ := nums_form hin.low
  obtain ⟨ha, hc, e2⟩ := nums_form hin.high
  obtain ⟨oa, oc, e3⟩ := nums_form hin.old
  obtain ⟨fa, fc, e4⟩ := nums_form hin.far
  obtain ⟨ra, rc, e5⟩ := nums_form hin.roots
  obtain ⟨vl, vh, vo, vf, vr⟩ := v
  dsimp only at e1 e2 e3 e4 e5
  subst e1 e2 e3 e4 e5
  unfold hpV hpCells at *
  dsimp only at *
  clear hin
  obtain ⟨l, c, f⟩ := K.get
  generalize strB (rowN (headN h)) = X at *
  go_enter Try.func20, Try.ntmps20
  go_wp2_with fail
  refine HC.out.mono ?_; rintro e w1 ⟨rfl, k1⟩
  go_wp2_with fail
  go_ret2
  exact ⟨rfl, k1⟩
theorem c3_any (h : Hp) (v : Hv) (hb : Nat) (W : World) (hin : HIn W h v) (K : Blk W hb (hpCells h v) 40) (hr : h.roots.all refOkB = true) (hl : h.roots.length < 1000000) :
    Calls Try.prog 22 #[.pointer (some ⟨hb, 0, none⟩)] W fun e w' => e = .returned (.tuple #[.string (rootS h), .int .i64 0]) ∧ Below W.heap.size W w' := by
  have HC := Lib.hid (roots_any h v W hin hr hl)
  obtain ⟨la, lc, e1⟩ := nums_form hin.low
  obtain ⟨ha, hc, e2⟩ := nums_form hin.high
  obtain ⟨oa, oc, e3⟩ := nums_form hin.old
  obtain ⟨fa, fc, e4⟩ := nums_form hin.far
  obtain ⟨ra, rc, e5⟩ := nums_form hin.roots
  obtain ⟨vl, vh, vo, vf, vr⟩ := v
  dsimp only at e1 e2 e3 e4 e5
  subst e1 e2 e3 e4 e5
  unfold hpV hpCells at *
  dsimp only at *
  clear hin
  obtain ⟨l, c, f⟩ := K.get
  generalize rootS h = X at *
  go_enter Try.func22, Try.ntmps22
  go_wp2_with fail
  refine HC.out.mono ?_; rintro e w1 ⟨rfl, k1⟩
  go_wp2_with fail
  go_ret2
  exact ⟨rfl, k1⟩
theorem c1_any (h : Hp) (v : Hv) (s : Fnd) (q : Nat) (hq : 1 ≤ q ∧ q ≤ 4) (hb b1 b2 : Nat) (W : World) (hin : HIn W h v) (hlk : lookF h = some s) (K : Blk W hb (hpCells h v) 40) (K1 : Blk W b1 #[.int .i64 q] 3) (K2 : Blk W b2 #[v.part q] 22) :
    Calls Try.prog 18 #[.pointer (some ⟨hb, 0, none⟩), .pointer (some ⟨b1, 0, none⟩), .pointer (some ⟨b2, 0, none⟩)] W fun e w' => e = .returned (.tuple #[.string (partU h s q), .int .i64 0]) ∧ Below W.heap.size W w' := by
  have HC := Lib.hid (objects_any h v q hq W hin)
  obtain ⟨ha1, ha2, hf, ha4⟩ := looks_rest hlk
  have hch := hf.chain q hq
  have hnp := hin.part q
  have hcap : (h.part q).length < 1000000 := by
    have hl : layR h.lay = true := by
      unfold boundedB at ha1
      rw [Bool.and_eq_true] at ha1
      exact ha1.1
    obtain ⟨r1, r2, r3, r4, r5, r6, r7⟩ := layR_t hl
    have e := lay_len h q hq
    unfold lenI Hp.lay at e
    unfold Hp.lay at r1 r2 r6 r7
    dsimp only at e r1 r2 r6 r7
    rcases (show q = 1 ∨ q = 2 ∨ q = 3 ∨ q = 4 by omega) with rfl | rfl | rfl | rfl <;> simp at e <;> omega
  have hfit : (∀ o ∈ s.obs q, FitB (h.part q).length o) := fun o ho => (hch.from o ho).2
  have hlen : (s.obs q).length ≤ (h.part q).length := by
    have := chain_len hch
    omega
  have htg : TgB (s.obs q) := found_tg hf hin.slow hin.shigh hin.sold hin.sfar q hq
  have hpo := Lib.hid (part_ok hlk q hq)
  have HO : Hid (∀ W' u, Below W.heap.size W W' → ObjsIn W' u (s.obs q) → Calls Try.prog 8 #[v.part q, u] W' fun e w' => e = .returned (.tuple #[.string (partU h s q), .int .i64 0]) ∧ Below W'.heap.size W' w') := Lib.hid fun W' u hb hu => by
    have := objs_any (v.part q) u (h.part q) (s.obs q) W' (hnp.1.tr hb) hnp.2 hu htg hcap (by omega)
    rw [hpo.out] at this
    exact this
  have hol : (s.obs q).length < 1000000000000 := by omega
  have HQ : Hid (∃ ad n c, v.part q = .slice ad n c) := by
    obtain ⟨ad, c, e⟩ := nums_form hnp.1
    exact ⟨_, _, _, e⟩
  obtain ⟨vad, vn, vc, hv⟩ := HQ.out
  rw [hv] at K2 HO
  clear hnp hcap hfit hlen htg hpo hch hf ha1 ha2 ha4 hv HQ
  generalize partU h s q = X at *
  have HLK := Lib.hid hlk
  clear hlk
  obtain ⟨la, lc, e1⟩ := nums_form hin.low
  obtain ⟨ha, hc, e2⟩ := nums_form hin.high
  obtain ⟨oa, oc, e3⟩ := nums_form hin.old
  obtain ⟨fa, fc, e4⟩ := nums_form hin.far
  obtain ⟨ra, rc, e5⟩ := nums_form hin.roots
  obtain ⟨vl, vh, vo, vf, vr⟩ := v
  dsimp only at e1 e2 e3 e4 e5
  subst e1 e2 e3 e4 e5
  unfold hpV hpCells at *
  dsimp only at *
  clear hin
  obtain ⟨l, c, f⟩ := K.get
  obtain ⟨l1, c1, f1⟩ := K1.get
  obtain ⟨l2, c2, f2⟩ := K2.get
  go_enter Try.func18, Try.ntmps18
  go_wp2_with fail
  refine HC.out.mono ?_
  rintro e w1 ⟨⟨hn, he⟩ | ⟨s', u, hn, rfl, hu⟩, k1⟩
  · rw [HLK.out] at hn; cases hn
  · rw [HLK.out] at hn
    obtain rfl : s = s' := Option.some.inj hn
    have hw1 : 0 < w1.heap.size := by have := k1.size; omega
    have HU := Lib.hid (obs_sees hu hw1 hol)
    obtain ⟨k1c, k1f⟩ := bcell k1
    have hb1 := Lib.hid k1
    clear hu hn k1
    go_wp2_with fail
    refine (HO.out w1 u hb1.out HU.out).mono ?_; rintro e w2 ⟨rfl, k2⟩
    go_wp2_with fail
    go_ret2
    exact ⟨rfl, kp_tr hb1.out k2⟩
end Go.Proofs.Ytpgjploaliefdaa.im
