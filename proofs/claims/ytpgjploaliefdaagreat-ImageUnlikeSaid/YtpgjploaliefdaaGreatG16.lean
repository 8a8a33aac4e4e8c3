/- The closures of image.Dump. No conditions. -/
import Derived.Test.YtpgjploaliefdaaGreatG15
namespace Go.Proofs.YtpgjploaliefdaaGreat.im
open Go Go.RowKit cm cw ga gr hp ob hd cp ck
open fr (strB putN rowN row_any put_any strB_size putN_10)
set_option linter.unusedVariables false
set_option linter.unusedSimpArgs false
set_option maxRecDepth 100000
set_option maxHeartbeats 4000000
theorem chain_len {len : Nat} : ∀ {pos : Nat} {l : List Ob}, ChainO len pos l → pos + l.length ≤ len
 | pos, [], h => by
  have : pos = len := h
  simp
  omega
 | pos, o :: l, ⟨h1, h2, h3, h4⟩ => by
  have := chain_len h4
  rw [List.length_cons]
  omega
theorem newF_tg {zs : List Int} {l : List Ob} {k : Nat} (hz : ∀ i, 0 ≤ zs.getD i 0 ∧ zs.getD i 0 < 18446744073709551616) (h : newF zs = .ok l k) : ∀ o ∈ l, 0 ≤ o.t ∧ o.t < 18446744073709551616 := by
 refine walkF_tg hz (fun k pos x o k' hx hb => ?_) (acc := []) (fun o ho => by simp at ho) h
 unfold bgN at hb
 split at hb
 ·cases hb
  exact ⟨Int.le_refl _, (show (0 : Int) < 18446744073709551616 by decide)⟩
 ·cases hb
theorem found_tg {h : Hp} {s : Fnd} (f : cp.Found h s) (z1 : Small h.low) (z2 : Small h.high) (z3 : Small h.old) (z4 : Small h.far) (q : Nat) (hq : 1 ≤ q ∧ q ≤ 4) : TgB (s.obs q) := by
 obtain ⟨⟨k1, e1⟩, ⟨k2, e2⟩, ⟨k3, e3⟩, ⟨k4, e4⟩, e5, e6⟩ := f
 rcases (show q = 1 ∨ q = 2 ∨ q = 3 ∨ q = 4 by omega) with rfl | rfl | rfl | rfl
 ·exact newF_tg z1 e1
 ·exact newF_tg z2 e2
 ·exact oldF_tg z3 e3
 ·exact oldF_tg z4 e4
def hpCells (h : Hp) (v : Hv) : Array Value := #[.int .u64 h.base, .int .i64 h.cap, .int .i64 h.tt, .bool h.cyc, .int .i64 h.scan, v.l, v.h, v.o, v.f, v.r]
theorem mk_any (q : Int) (ad : Option Addr) (n c hb : Nat) (W : World) :
  Calls Tryz.prog 26 #[.int .i64 q, .slice ad n c, .pointer (some ⟨hb, 0, none⟩)] W fun e w' => e = .returned (.func (.func 27) #[] #[.pointer (some ⟨hb, 0, none⟩), .pointer (some ⟨W.heap.size, 0, none⟩), .pointer (some ⟨W.heap.size + 1, 0, none⟩)]) ∧ w' = (W.alloc (.cells #[.int .i64 q] 3)).alloc (.cells #[.slice ad n c] 29) := by
 go_enter Tryz.func26, Tryz.ntmps26
 go_wp2_with fail
 go_ret
 exact ⟨rfl, rfl⟩
theorem c2_any (h : Hp) (v : Hv) (hb : Nat) (W : World) (hin : HIn W h v) (K : Blk W hb (hpCells h v) 32) (hc0 : 0 ≤ h.cap) (ht0 : 0 ≤ h.tt) (hs0 : 0 ≤ h.scan) :
  Calls Tryz.prog 29 #[.pointer (some ⟨hb, 0, none⟩)] W fun e w' => e = .returned (.tuple #[.string (strB (rowN (headN h))), .int .i64 0]) ∧ Below W.heap.size W w' := by
 have HC := Lib.hid (head_any h v W hin hc0 ht0 hs0)
 obtain ⟨la, lc, e1⟩ := nums_form hin.low
 obtain ⟨ha, hc, e2⟩ := nums_form hin.high
 obtain ⟨oa, oc, e3⟩ := nums_form hin.old
 obtain ⟨fa, fc, e4⟩ := nums_form hin.far
 obtain ⟨ra, rc, e5⟩ := nums_form hin.roots
 obtain ⟨vl, vh, vo, vf, vr⟩ := v
 dsimp only at e1 e2 e3 e4 e5
 subst e1 e2 e3 e4 e5
 unfold hpV hpCells at *
 dsimp only at *
 clear hin
 obtain ⟨l, c, f⟩ := K.get
 generalize strB (rowN (headN h)) = X at *
 go_enter Tryz.func29, Tryz.ntmps29
 go_wp2_with fail
 refine HC.out.mono ?_; rintro e w1 ⟨rfl, k1⟩
 go_wp2_with fail
 go_ret2
 exact ⟨rfl, k1⟩
theorem c3_any (h : Hp) (v : Hv) (hb : Nat) (W : World) (hin : HIn W h v) (K : Blk W hb (hpCells h v) 32) (hr : h.roots.all refOkB = true) (hl : h.roots.length < 1000000) :
  Calls Tryz.prog 31 #[.pointer (some ⟨hb, 0, none⟩)] W fun e w' => e = .returned (.tuple #[.string (rootS h), .int .i64 0]) ∧ Below W.heap.size W w' := by
 have HC := Lib.hid (roots_any h v W hin hr hl)
 obtain ⟨la, lc, e1⟩ := nums_form hin.low
 obtain ⟨ha, hc, e2⟩ := nums_form hin.high
 obtain ⟨oa, oc, e3⟩ := nums_form hin.old
 obtain ⟨fa, fc, e4⟩ := nums_form hin.far
 obtain ⟨ra, rc, e5⟩ := nums_form hin.roots
 obtain ⟨vl, vh, vo, vf, vr⟩ := v
 dsimp only at e1 e2 e3 e4 e5
 subst e1 e2 e3 e4 e5
 unfold hpV hpCells at *
 dsimp only at *
 clear hin
 obtain ⟨l, c, f⟩ := K.get
 generalize rootS h = X at *
 go_enter Tryz.func31, Tryz.ntmps31
 go_wp2_with fail
 refine HC.out.mono ?_; rintro e w1 ⟨rfl, k1⟩
 go_wp2_with fail
 go_ret2
 exact ⟨rfl, k1⟩
theorem c1_any (h : Hp) (v : Hv) (s : Fnd) (q : Nat) (hq : 1 ≤ q ∧ q ≤ 4) (hb b1 b2 : Nat) (W : World) (hin : HIn W h v) (hlk : lookF h = some s) (K : Blk W hb (hpCells h v) 32) (K1 : Blk W b1 #[.int .i64 q] 3) (K2 : Blk W b2 #[v.part q] 29) :
  Calls Tryz.prog 27 #[.pointer (some ⟨hb, 0, none⟩), .pointer (some ⟨b1, 0, none⟩), .pointer (some ⟨b2, 0, none⟩)] W fun e w' => e = .returned (.tuple #[.string (partU h s q), .int .i64 0]) ∧ Below W.heap.size W w' := by
 have HC := Lib.hid (objects_any h v q hq W hin)
 obtain ⟨ha1, ha2, hf, ha4⟩ := looks_rest hlk
 have hch := hf.chain q hq
 have hnp := hin.part q
 have hcap : (h.part q).length < 1000000 := by
  have hl : layR h.lay = true := by
   unfold boundedB at ha1
   rw [Bool.and_eq_true] at ha1
   exact ha1.1
  obtain ⟨r1, r2, r3, r4, r5, r6, r7⟩ := layR_t hl
  have e := lay_len h q hq
  unfold lenI Hp.lay at e
  unfold Hp.lay at r1 r2 r6 r7
  dsimp only at e r1 r2 r6 r7
  rcases (show q = 1 ∨ q = 2 ∨ q = 3 ∨ q = 4 by omega) with rfl | rfl | rfl | rfl <;> simp at e <;> omega
 have hfit : (∀ o ∈ s.obs q, FitB (h.part q).length o) := fun o ho => (hch.from o ho).2
 have hlen : (s.obs q).length ≤ (h.part q).length := by
  have := chain_len hch
  omega
 have htg : TgB (s.obs q) := found_tg hf hin.slow hin.shigh hin.sold hin.sfar q hq
 have hpo := Lib.hid (part_ok hlk q hq)
 have HO : Hid (∀ W' u, Below W.heap.size W W' → ObjsIn W' u (s.obs q) → Calls Tryz.prog 15 #[v.part q, u] W' fun e w' => e = .returned (.tuple #[.string (partU h s q), .int .i64 0]) ∧ Below W'.heap.size W' w') := Lib.hid fun W' u hb hu => by
  have := objs_any (v.part q) u (h.part q) (s.obs q) W' (hnp.1.tr hb) hnp.2 hu htg hcap (by omega)
  rw [hpo.out] at this
  exact this
 have hol : (s.obs q).length < 1000000000000 := by omega
 have HQ : Hid (∃ ad n c, v.part q = .slice ad n c) := by
  obtain ⟨ad, c, e⟩ := nums_form hnp.1
  exact ⟨_, _, _, e⟩
 obtain ⟨vad, vn, vc, hv⟩ := HQ.out
 rw [hv] at K2 HO
 clear hnp hcap hfit hlen htg hpo hch hf ha1 ha2 ha4 hv HQ
 generalize partU h s q = X at *
 have HLK := Lib.hid hlk
 clear hlk
 obtain ⟨la, lc, e1⟩ := nums_form hin.low
 obtain ⟨ha, hc, e2⟩ := nums_form hin.high
 obtain ⟨oa, oc, e3⟩ := nums_form hin.old
 obtain ⟨fa, fc, e4⟩ := nums_form hin.far
 obtain ⟨ra, rc, e5⟩ := nums_form hin.roots
 obtain ⟨vl, vh, vo, vf, vr⟩ := v
 dsimp only at e1 e2 e3 e4 e5
 subst e1 e2 e3 e4 e5
 unfold hpV hpCells at *
 dsimp only at *
 clear hin
 obtain ⟨l, c, f⟩ := K.get
 obtain ⟨l1, c1, f1⟩ := K1.get
 obtain ⟨l2, c2, f2⟩ := K2.get
 go_enter Tryz.func27, Tryz.ntmps27
 go_wp2_with fail
 refine HC.out.mono ?_
 rintro e w1 ⟨⟨hn, he⟩ | ⟨s', u, hn, rfl, hu⟩, k1⟩
 ·rw [HLK.out] at hn; cases hn
 ·rw [HLK.out] at hn
  obtain rfl : s = s' := Option.some.inj hn
  have hw1 : 0 < w1.heap.size := by have := k1.size; omega
  have HU := Lib.hid (obs_sees hu hw1 hol)
  obtain ⟨k1c, k1f⟩ := bcell k1
  have hb1 := Lib.hid k1
  clear hu hn k1
  go_wp2_with fail
  refine (HO.out w1 u hb1.out HU.out).mono ?_; rintro e w2 ⟨rfl, k2⟩
  go_wp2_with fail
  go_ret2
  exact ⟨rfl, kp_tr hb1.out k2⟩
end Go.Proofs.YtpgjploaliefdaaGreat.im
namespace Go.Proofs.YtpgjploaliefdaaGreat.im
open Go Go.RowKit cm cw ga gr hp ob hd cp ck
open fr (strB putN rowN strB_size putN_10 putN_len)
set_option linter.unusedVariables false
set_option linter.unusedSimpArgs false
def framesOf (h : Hp) (s : Fnd) : List (Int × ByteArray) := [(1, strB (rowN (headN h))), (2, rootS h), (3, partU h s 1), (4, partU h s 2), (5, partU h s 3), (6, partU h s 4)]
theorem flat_le {α β : Type} (f : α → List β) (m : Nat) : ∀ l : List α, (∀ x ∈ l, (f x).length ≤ m) → (l.flatMap f).length ≤ m * l.length
 | [], _ => by simp
 | x :: l, h => by
  have h1 := h x (by simp)
  have h2 := flat_le f m l (fun y hy => h y (by simp [hy]))
  rw [List.flatMap_cons, List.length_append, List.length_cons, Nat.mul_add]
  omega
theorem strB_list (l : List Nat) : (strB l).data.toList.length = l.length := by
 have := strB_size l
 rw [Array.length_toList]
 exact this
theorem uP_10 {v : Nat} (h : v < 18446744073709551616) : (uP v).length ≤ 10 := by
 unfold uP
 rw [strB_list]
 exact putN_10 h
theorem small_mem2 {zs : List Int} (h : Small zs) (x : Int) (hx : x ∈ zs) : 0 ≤ x ∧ x < 18446744073709551616 := by
 obtain ⟨i, hi, rfl⟩ := List.mem_iff_getElem.1 hx
 have := h i
 rw [List.getD_eq_getElem?_getD, List.getElem?_eq_getElem hi] at this
 exact this
theorem putN_2 {v : Nat} (h : v < 16384) : (putN v).length ≤ 2 := putN_len 1 v (Nat.lt_of_lt_of_le h (by decide))
theorem putN_1 {v : Nat} (h : v < 128) : (putN v).length ≤ 1 := putN_len 0 v (Nat.lt_of_lt_of_le h (by decide))
theorem refsU_le {xs : List Int} (h : Small xs) : (refsU xs).length ≤ 10 * xs.length := by
 unfold refsU
 refine flat_le _ 10 xs fun x hx => ?_
 refine uP_10 ?_
 obtain ⟨h1, h2⟩ := small_mem2 h x hx
 have : adV x < 18446744073709551616 := by unfold adV; split <;> omega
 omega
theorem uWords_le {xs : List Int} (h : Small xs) : (uWords xs).length ≤ 10 * xs.length := by
 unfold uWords wordsN
 rw [strB_list]
 refine flat_le _ 10 xs fun x hx => ?_
 rw [fr.leB_len]
 omega
theorem objU_le {zs : List Int} {o : Ob} (hz : Small zs) (hf : FitB zs.length o) (ht : 0 ≤ o.t ∧ o.t < 18446744073709551616) : (objU zs o).length ≤ 11 * (1 + o.s.toNat) := by
 obtain ⟨f1, f2, f3, f4, f5, f6⟩ := hf
 unfold objU
 split
 ·unfold uRow rowN
  rw [strB_list]
  have h1 := putN_1 (v := 1) (by omega)
  have h2 := putN_10 (v := o.t.toNat) (by omega)
  simp
  omega
 ·have h1 : (uRow [0, o.s.toNat, o.p.toNat]).length ≤ 5 := by
   unfold uRow rowN
   rw [strB_list]
   have h1 := putN_1 (v := 0) (by omega)
   have h2 := putN_2 (v := o.s.toNat) (by omega)
   have h3 := putN_2 (v := o.p.toNat) (by omega)
   simp
   omega
  have h2 := refsU_le (sub_small hz (o.pos.toNat + 1) o.p.toNat)
  have h3 := uWords_le (sub_small hz (o.pos.toNat + 1 + o.p.toNat) (o.s.toNat - o.p.toNat))
  rw [sub_len (by omega)] at h2 h3
  rw [List.length_append, List.length_append]
  omega
theorem objs_le {zs : List Int} (hz : Small zs) : ∀ {pos : Nat} {l : List Ob}, ChainO zs.length pos l → TgB l → (l.flatMap (objU zs)).length ≤ 11 * (zs.length - pos)
 | pos, [], h, _ => by simp
 | pos, o :: l, h, ht => by
  have hf := h.from o (by simp)
  obtain ⟨h1, h2, h3, h4⟩ := h
  have e1 := objU_le hz hf.2 (ht o (by simp))
  have e2 := objs_le hz h4 (fun o ho => ht o (by simp [ho]))
  rw [List.flatMap_cons, List.length_append]
  omega
theorem head_pos {h : Hp} {s : Fnd} (e : lookF h = some s) : 0 ≤ h.cap ∧ 0 ≤ h.tt ∧ 0 ≤ h.scan ∧ h.roots.length ≤ 16 ∧ h.roots.all refOkB = true ∧ h.cap < 9223372036854775808 ∧ h.tt ≤ 1 ∧ h.scan ≤ 4096 ∧ ∀ q, 1 ≤ q ∧ q ≤ 4 → (h.part q).length ≤ 4096 := by
 have hr := roots_ok e
 obtain ⟨ha1, ha2, hf, ha4⟩ := looks_rest e
 unfold boundedB at ha1
 rw [Bool.and_eq_true, decide_eq_true_eq] at ha1
 obtain ⟨r1, r2, r3, r4, r5, r6, r7⟩ := layR_t ha1.1
 obtain ⟨s1, s2, s3⟩ := ha1.2
 unfold Hp.lay at r1 r2 r3 r4 r5 r6 r7
 dsimp only at r1 r2 r3 r4 r5 r6 r7
 refine ⟨r1, by omega, s2, s1, hr, by omega, by omega, by omega, fun q hq => ?_⟩
 unfold Hp.part
 rcases (show q = 1 ∨ q = 2 ∨ q = 3 ∨ q = 4 by omega) with rfl | rfl | rfl | rfl <;> simp <;> omega
theorem part_le {h : Hp} {s : Fnd} (e : lookF h = some s) (z1 : Small h.low) (z2 : Small h.high) (z3 : Small h.old) (z4 : Small h.far) (q : Nat) (hq : 1 ≤ q ∧ q ≤ 4) : (partU h s q).size ≤ 100000 := by
 obtain ⟨p1, p2, p3, p4, p5, p6, p7, p8, hl⟩ := head_pos e
 have hl := hl q hq
 obtain ⟨ha1, ha2, hf, ha4⟩ := looks_rest e
 have hc := hf.chain q hq
 have ht := found_tg hf z1 z2 z3 z4 q hq
 have hs : Small (h.part q) := by
  unfold Hp.part
  rcases (show q = 1 ∨ q = 2 ∨ q = 3 ∨ q = 4 by omega) with rfl | rfl | rfl | rfl
  ·exact z1
  ·exact z2
  ·exact z3
  ·exact z4
 have h1 := objs_le hs hc ht
 have h2 := chain_len hc
 have h3 := uP_10 (v := (s.obs q).length) (by omega)
 show (uP (s.obs q).length ++ (s.obs q).flatMap (objU (h.part q))).toArray.size ≤ 100000
 simp only [List.size_toArray, List.length_append]
 omega
theorem frames_le {h : Hp} {s : Fnd} (e : lookF h = some s) (hb : 0 ≤ h.base ∧ h.base < 18446744073709551616) (z1 : Small h.low) (z2 : Small h.high) (z3 : Small h.old) (z4 : Small h.far) (z5 : Small h.roots) : ∀ f ∈ framesOf h s, f.2.size ≤ 100000 := by
 obtain ⟨p1, p2, p3, p4, p5, p6, p7, p8, hl⟩ := head_pos e
 intro f hf
 unfold framesOf at hf
 simp only [List.mem_cons, List.not_mem_nil, or_false] at hf
 rcases hf with rfl | rfl | rfl | rfl | rfl | rfl
 ·show (strB (rowN (headN h))).size ≤ 100000
  rw [strB_size]
  unfold rowN
  refine Nat.le_trans (flat_le putN 10 (headN h) fun x hx => ?_) (by unfold headN; simp)
  refine putN_10 ?_
  unfold headN at hx
  simp only [List.mem_cons, List.not_mem_nil, or_false] at hx
  rcases hx with rfl | rfl | rfl | rfl | rfl | rfl
  ·omega
  ·omega
  ·omega
  ·omega
  ·split <;> omega
  ·omega
 ·show (rootS h).size ≤ 100000
  unfold rootS
  have h1 := refsU_le z5
  have h2 := putN_10 (v := h.roots.length) (by omega)
  rw [ByteArray.size_append, strB_size]
  have : (ByteArray.mk (refsU h.roots).toArray).size = (refsU h.roots).length := by
   show (refsU h.roots).toArray.size = _
   simp
  omega
 ·exact part_le e z1 z2 z3 z4 1 (by omega)
 ·exact part_le e z1 z2 z3 z4 2 (by omega)
 ·exact part_le e z1 z2 z3 z4 3 (by omega)
 ·exact part_le e z1 z2 z3 z4 4 (by omega)
theorem frames_63 {h : Hp} {s : Fnd} : ∀ f ∈ framesOf h s, -9223372036854775808 ≤ f.1 ∧ f.1 < 9223372036854775808 := by
 intro f hf
 unfold framesOf at hf
 simp only [List.mem_cons, List.not_mem_nil, or_false] at hf
 rcases hf with rfl | rfl | rfl | rfl | rfl | rfl <;> (dsimp only; omega)
end Go.Proofs.YtpgjploaliefdaaGreat.im
namespace Go.Proofs.YtpgjploaliefdaaGreat.im
open Go Go.RowKit cm cw ga gr hp ob hd cp ck
open fr (strB putN rowN strB_size putN_10 putN_len putN_pos frameS headS halfS joinU joinR bytesU idOk)
set_option linter.unusedVariables false
set_option linter.unusedSimpArgs false
theorem walkF_ad {bg : Nat → Nat → Int → Option (Ob × Nat)} {zs : List Int} {len : Nat} (hz : Small zs) (hbg : ∀ k pos x o k', (0 ≤ x ∧ x < 18446744073709551616) → bg k pos x = some (o, k') → 0 ≤ o.t ∧ o.t < 9223372036854775808) :
  ∀ {f k pos : Nat} {acc l : List Ob} {k2 : Nat}, (∀ o ∈ acc, 0 ≤ o.t ∧ o.t < 9223372036854775808) → walkF bg zs len f k pos acc = .ok l k2 → ∀ o ∈ l, 0 ≤ o.t ∧ o.t < 9223372036854775808
 | 0, k, pos, acc, l, k2, ha, h => by cases h
 | f + 1, k, pos, acc, l, k2, ha, h => by
  by_cases hp : pos < len
  ·rw [walkF_step hp] at h
   split at h
   ·cases h
   ·rename_i o k' hb
    have h1 := hbg _ _ _ _ _ (hz pos) hb
    split at h
    ·cases h
    ·split at h
     ·exact walkF_ad hz hbg (acc := acc ++ [o]) (fun o' ho' => by
       rcases List.mem_append.1 ho' with h6 | h6
       ·exact ha _ h6
       ·simp at h6; subst h6; exact h1) h
     ·cases h
  ·rw [walkF_end hp] at h
   cases h
   exact ha
theorem bgN_ad {k pos : Nat} {x : Int} {o : Ob} {k' : Nat} (hb : bgN k pos x = some (o, k')) : 0 ≤ o.t ∧ o.t < 9223372036854775808 := by
 unfold bgN at hb
 split at hb
 ·cases hb
  exact ⟨Int.le_refl _, (show (0 : Int) < 9223372036854775808 by decide)⟩
 ·cases hb
theorem newF_ad {zs : List Int} {l : List Ob} {k : Nat} (hz : Small zs) (h : newF zs = .ok l k) : ∀ o ∈ l, 0 ≤ o.t ∧ o.t < 9223372036854775808 :=
 walkF_ad hz (fun k pos x o k' hx hb => bgN_ad hb) (acc := []) (fun o ho => by simp at ho) h
theorem oldF_ad {zs : List Int} {ss : List (Int × Int)} {l : List Ob} {k : Nat} (hz : Small zs) (h : oldF zs ss = .ok l k) : ∀ o ∈ l, 0 ≤ o.t ∧ o.t < 9223372036854775808 := by
 unfold oldF at h
 generalize hw : walkF (bgO ss.length ss) zs zs.length (zs.length + 1) 0 0 [] = r at h
 rcases r with ⟨l', k'⟩ | ⟨c, k'⟩
 ·obtain rfl := oldRes_ok h
  refine walkF_ad hz (fun k pos x o k' hx hb => ?_) (acc := []) (fun o ho => by simp at ho) hw
  unfold bgO at hb
  split at hb
  ·split at hb
   ·cases hb
    show 0 ≤ adV x ∧ adV x < _
    unfold adV
    split <;> omega
   ·cases hb
  ·exact bgN_ad hb
 ·cases h
theorem found_ad {h : Hp} {s : Fnd} (f : cp.Found h s) (z1 : Small h.low) (z2 : Small h.high) (z3 : Small h.old) (z4 : Small h.far) (q : Nat) (hq : 1 ≤ q ∧ q ≤ 4) : ∀ o ∈ s.obs q, 0 ≤ o.t ∧ o.t < 9223372036854775808 := by
 obtain ⟨⟨k1, e1⟩, ⟨k2, e2⟩, ⟨k3, e3⟩, ⟨k4, e4⟩, e5, e6⟩ := f
 rcases (show q = 1 ∨ q = 2 ∨ q = 3 ∨ q = 4 by omega) with rfl | rfl | rfl | rfl
 ·exact newF_ad z1 e1
 ·exact newF_ad z2 e2
 ·exact oldF_ad z3 e3
 ·exact oldF_ad z4 e4
theorem putN_9 {v : Nat} (h : v < 9223372036854775808) : (putN v).length ≤ 9 := putN_len 8 v (Nat.lt_of_lt_of_le h (by decide))
theorem obj_le {zs : List Int} {o : Ob} (hz : Small zs) (hf : FitB zs.length o) (ht : 0 ≤ o.t ∧ o.t < 9223372036854775808) : (objU zs o).length ≤ 10 * (1 + o.s.toNat) := by
 obtain ⟨f1, f2, f3, f4, f5, f6⟩ := hf
 unfold objU
 split
 ·unfold uRow rowN
  rw [strB_list]
  have h1 := putN_1 (v := 1) (by omega)
  have h2 := putN_9 (v := o.t.toNat) (by omega)
  simp
  omega
 ·have h1 : (uRow [0, o.s.toNat, o.p.toNat]).length ≤ 5 := by
   unfold uRow rowN
   rw [strB_list]
   have h1 := putN_1 (v := 0) (by omega)
   have h2 := putN_2 (v := o.s.toNat) (by omega)
   have h3 := putN_2 (v := o.p.toNat) (by omega)
   simp
   omega
  have h2 := refsU_le (sub_small hz (o.pos.toNat + 1) o.p.toNat)
  have h3 := uWords_le (sub_small hz (o.pos.toNat + 1 + o.p.toNat) (o.s.toNat - o.p.toNat))
  rw [sub_len (by omega)] at h2 h3
  rw [List.length_append, List.length_append]
  omega
theorem objs_le10 {zs : List Int} (hz : Small zs) : ∀ {pos : Nat} {l : List Ob}, ChainO zs.length pos l → (∀ o ∈ l, 0 ≤ o.t ∧ o.t < 9223372036854775808) → (l.flatMap (objU zs)).length ≤ 10 * (zs.length - pos)
 | pos, [], h, _ => by simp
 | pos, o :: l, h, ht => by
  have hf := h.from o (by simp)
  obtain ⟨h1, h2, h3, h4⟩ := h
  have e1 := obj_le hz hf.2 (ht o (by simp))
  have e2 := objs_le10 hz h4 (fun o ho => ht o (by simp [ho]))
  rw [List.flatMap_cons, List.length_append]
  omega
theorem part_len10 {h : Hp} {s : Fnd} (e : lookF h = some s) (z1 : Small h.low) (z2 : Small h.high) (z3 : Small h.old) (z4 : Small h.far) (q : Nat) (hq : 1 ≤ q ∧ q ≤ 4) : (partU h s q).size ≤ 10 * (h.part q).length + 2 := by
 obtain ⟨p1, p2, p3, p4, p5, p6, p7, p8, hl⟩ := head_pos e
 have hl := hl q hq
 obtain ⟨ha1, ha2, hf, ha4⟩ := looks_rest e
 have hc := hf.chain q hq
 have ht := found_ad hf z1 z2 z3 z4 q hq
 have hs : Small (h.part q) := by
  unfold Hp.part
  rcases (show q = 1 ∨ q = 2 ∨ q = 3 ∨ q = 4 by omega) with rfl | rfl | rfl | rfl
  ·exact z1
  ·exact z2
  ·exact z3
  ·exact z4
 have h1 := objs_le10 hs hc ht
 have h2 := chain_len hc
 have h3 : (uP (s.obs q).length).length ≤ 2 := by
  unfold uP
  rw [strB_list]
  exact putN_2 (by omega)
 show (uP (s.obs q).length ++ (s.obs q).flatMap (objU (h.part q))).toArray.size ≤ _
 simp only [List.size_toArray, List.length_append]
 omega
theorem bytes_len (f : Int × ByteArray) (hs : f.2.size < 100000000000) : (bytesU f).length ≤ f.2.size + 15 ∧ f.2.size + 6 ≤ (bytesU f).length := by
 have h1 : (strB [f.1.toNat]).size = 1 := strB_size _
 have h2 : (strB (putN f.2.size)).size ≤ 10 := by rw [strB_size]; exact putN_10 (by omega)
 have h4 : 1 ≤ (strB (putN f.2.size)).size := by rw [strB_size]; exact putN_pos _
 have h3 : ∀ X, (halfS X).size = 4 := fun X => by unfold halfS; rw [strB_size]; simp [le4]
 have e : (bytesU f).length = (frameS f.1.toNat f.2).size := by unfold bytesU; rw [Array.length_toList]; rfl
 rw [e]
 unfold frameS headS
 simp only [ByteArray.size_append, h1, h3]
 omega
theorem image_len {h : Hp} {s : Fnd} (e : lookF h = some s) (hb : 0 ≤ h.base ∧ h.base < 18446744073709551616) (z1 : Small h.low) (z2 : Small h.high) (z3 : Small h.old) (z4 : Small h.far) (z5 : Small h.roots) :
  (joinR (framesOf h s)).2 = 0 ∧ (joinR (framesOf h s)).1.size ≤ 10 * (h.low.length + h.high.length + h.old.length + h.far.length) + 10 * h.roots.length + 150 ∧ 36 + h.roots.length ≤ (joinR (framesOf h s)).1.size := by
 have hle := frames_le e hb z1 z2 z3 z4 z5
 obtain ⟨p1, p2, p3, p4, p5, p6, p7, p8, hl⟩ := head_pos e
 have hid : ∀ f ∈ framesOf h s, idOk f := by
  intro f hf
  unfold framesOf at hf
  simp only [List.mem_cons, List.not_mem_nil, or_false] at hf
  rcases hf with rfl | rfl | rfl | rfl | rfl | rfl <;> (unfold idOk; dsimp only; decide)
 have hsz : (joinR (framesOf h s)).1.size = (joinU (framesOf h s)).length := by
  unfold joinR
  rw [if_pos hid]
  show (joinU (framesOf h s)).toArray.size = _
  simp
 refine ⟨by unfold joinR; rw [if_pos hid], ?_⟩
 rw [hsz]
 have hm : ∀ f ∈ framesOf h s, (bytesU f).length ≤ f.2.size + 15 ∧ f.2.size + 6 ≤ (bytesU f).length := fun f hf => bytes_len f (by have := hle f hf; omega)
 have b1 := hm (1, strB (rowN (headN h))) (by unfold framesOf; simp)
 have b2 := hm (2, rootS h) (by unfold framesOf; simp)
 have b3 := hm (3, partU h s 1) (by unfold framesOf; simp)
 have b4 := hm (4, partU h s 2) (by unfold framesOf; simp)
 have b5 := hm (5, partU h s 3) (by unfold framesOf; simp)
 have b6 := hm (6, partU h s 4) (by unfold framesOf; simp)
 have c3 := part_len10 e z1 z2 z3 z4 1 (by omega)
 have c4 := part_len10 e z1 z2 z3 z4 2 (by omega)
 have c5 := part_len10 e z1 z2 z3 z4 3 (by omega)
 have c6 := part_len10 e z1 z2 z3 z4 4 (by omega)
 have q1 : (h.part 1) = h.low := rfl
 have q2 : (h.part 2) = h.high := rfl
 have q3 : (h.part 3) = h.old := rfl
 have q4 : (h.part 4) = h.far := rfl
 rw [q1] at c3
 rw [q2] at c4
 rw [q3] at c5
 rw [q4] at c6
 have c1 : (strB (rowN (headN h))).size ≤ 17 := by
  rw [strB_size]
  unfold rowN headN
  have h1 := putN_1 (v := 1) (by omega)
  have h2 := putN_10 (v := h.base.toNat) (by omega)
  have hc : h.cap.toNat ≤ 4096 := by
   obtain ⟨ha1, ha2, hf, ha4⟩ := looks_rest e
   unfold boundedB at ha1
   rw [Bool.and_eq_true, decide_eq_true_eq] at ha1
   obtain ⟨r1, r2, r3, r4, r5, r6, r7⟩ := layR_t ha1.1
   have : h.cap ≤ 4096 := r2
   omega
  have h3 := putN_2 (v := h.cap.toNat) (by omega)
  have h4 := putN_1 (v := h.tt.toNat) (by omega)
  have h5 := putN_1 (v := if h.cyc then 1 else 0) (by split <;> omega)
  have h6 := putN_2 (v := h.scan.toNat) (by
   obtain ⟨ha1, ha2, hf, ha4⟩ := looks_rest e
   unfold boundedB at ha1
   rw [Bool.and_eq_true, decide_eq_true_eq] at ha1
   have := hl 1 (by omega)
   rw [q1] at this
   omega)
  simp only [List.flatMap_cons, List.flatMap_nil, List.length_append, List.length_nil]
  omega
 have c2 : (rootS h).size ≤ 1 + 10 * h.roots.length ∧ h.roots.length ≤ (rootS h).size := by
  have h1 := refsU_le z5
  have h2 := putN_1 (v := h.roots.length) (by omega)
  have h3 : h.roots.length ≤ (refsU h.roots).length := by
   unfold refsU
   generalize h.roots = l
   induction l with
   | nil => simp
   | cons a l ih =>
    rw [List.flatMap_cons, List.length_append, List.length_cons]
    have : 1 ≤ (uP (adV a).toNat).length := by unfold uP; rw [strB_list]; exact putN_pos _
    omega
  have e1 : (rootS h).size = (putN h.roots.length).length + (refsU h.roots).length := by
   unfold rootS
   rw [ByteArray.size_append, strB_size]
   congr 1
  omega
 have hj : (joinU (framesOf h s)).length = (bytesU (1, strB (rowN (headN h)))).length + (bytesU (2, rootS h)).length + (bytesU (3, partU h s 1)).length + (bytesU (4, partU h s 2)).length + (bytesU (5, partU h s 3)).length + (bytesU (6, partU h s 4)).length := by
  unfold joinU framesOf
  simp only [List.flatMap_cons, List.flatMap_nil, List.length_append, List.length_nil]
  omega
 rw [hj]
 dsimp only at b1 b2 b3 b4 b5 b6
 omega
end Go.Proofs.YtpgjploaliefdaaGreat.im
namespace Go.Proofs.YtpgjploaliefdaaGreat.im
open Go Go.RowKit cm cw ga gr hp ob hd cp ck
open fr (strB putN rowN strB_size putN_lo joinR joinU bytesU frameS headS halfS idOk)
set_option linter.unusedVariables false
set_option linter.unusedSimpArgs false
set_option maxRecDepth 100000
def h0 : Hp := ⟨0, 0, 0, false, 0, [], [], [], [], []⟩
def h1 : Hp := ⟨10, 5, 0, false, 2, [2, 6], [], [], [], [21]⟩
def ob1 : Ob := ⟨0, 1, 0, false, 0⟩
def s1 : Fnd := (((Fnd.nil.note h1.lay 1 [ob1]).note h1.lay 2 []).note h1.lay 3 []).note h1.lay 4 []
theorem aw_n : lookF h0 = none := by kernel_rfl
theorem aw_h : lookF h1 = some s1 := by kernel_rfl
theorem up_lo {n : Nat} (h : n < 128) : uP n = [UInt8.ofNat n] := by
 unfold uP
 rw [putN_lo h]
 rfl
theorem aw_head : strB (rowN (headN h1)) = ⟨#[1, 10, 5, 0, 0, 2]⟩ := by
 show strB ([1, 10, 5, 0, 0, 2].flatMap putN) = _
 simp only [List.flatMap_cons, List.flatMap_nil]
 repeat rw [putN_lo (by decide)]
 rfl
theorem aw_roots : rootS h1 = ⟨#[1, 10]⟩ := by
 show strB (putN 1) ++ ⟨(refsU [21]).toArray⟩ = _
 unfold refsU
 simp only [List.flatMap_cons, List.flatMap_nil]
 rw [putN_lo (by decide), show (adV 21).toNat = 10 from rfl, up_lo (by decide)]
 rfl
theorem aw_obj : objU [2, 6] ob1 = [0, 1, 0, 6, 0, 0, 0, 0, 0, 0, 0] := by
 show (strB ([0, 1, 0].flatMap putN)).data.toList ++ refsU [] ++ uWords [6] = _
 simp only [List.flatMap_cons, List.flatMap_nil]
 repeat rw [putN_lo (by decide)]
 rfl
theorem aw_p1 : partU h1 s1 1 = ⟨#[1, 0, 1, 0, 6, 0, 0, 0, 0, 0, 0, 0]⟩ := by
 show (⟨(uP 1 ++ [ob1].flatMap (objU [2, 6])).toArray⟩ : ByteArray) = _
 simp only [List.flatMap_cons, List.flatMap_nil]
 rw [aw_obj, up_lo (by decide)]
 rfl
theorem aw_p0 (q : Nat) (hq : q = 2 ∨ q = 3 ∨ q = 4) : partU h1 s1 q = ⟨#[0]⟩ := by
 rcases hq with rfl | rfl | rfl
 all_goals
  show (⟨(uP 0 ++ []).toArray⟩ : ByteArray) = _
  rw [up_lo (by decide)]
  rfl
theorem aw_o1 : objsR [2, 6] [ob1] = (⟨#[1, 0, 1, 0, 6, 0, 0, 0, 0, 0, 0, 0]⟩, 0) := by
 have := part_ok aw_h 1 (by decide)
 rw [aw_p1] at this
 exact this
theorem aw_o2 : objsR [2] [] = (⟨#[]⟩, 1) := rfl
theorem aw_r1 : refsR [0, 11] = (⟨#[0, 5]⟩, 0) := by
 have : refsU [0, 11] = [0, 5] := by
  unfold refsU
  simp only [List.flatMap_cons, List.flatMap_nil]
  rw [show (adV 0).toNat = 0 from rfl, show (adV 11).toNat = 5 from rfl, up_lo (by decide), up_lo (by decide)]
  rfl
 unfold refsR
 rw [if_pos (by decide), this]
theorem aw_r2 : refsR [4] = (⟨#[]⟩, 3) := rfl
theorem hs_lo {id : Nat} {b : ByteArray} (h : b.size < 128) : headS id b = strB [id] ++ strB [b.size] ++ b := by
 unfold headS
 rw [putN_lo h]
theorem fs_len {id : Nat} {b : ByteArray} (h : b.size < 128) : (frameS id b).data.toList.length = b.size + 6 := by
 rw [Array.length_toList]
 show (frameS id b).size = _
 unfold frameS halfS
 rw [hs_lo h]
 simp only [ByteArray.size_append, strB_size, List.length_cons, List.length_nil]
 have h4 : ∀ x, (le4 x).length = 4 := fun x => rfl
 rw [h4]
 omega
theorem aw_frames : framesOf h1 s1 = [(1, ⟨#[1, 10, 5, 0, 0, 2]⟩), (2, ⟨#[1, 10]⟩), (3, ⟨#[1, 0, 1, 0, 6, 0, 0, 0, 0, 0, 0, 0]⟩), (4, ⟨#[0]⟩), (5, ⟨#[0]⟩), (6, ⟨#[0]⟩)] := by
 unfold framesOf
 rw [aw_head, aw_roots, aw_p1, aw_p0 2 (by decide), aw_p0 3 (by decide), aw_p0 4 (by decide)]
theorem aw_ok : ∀ f ∈ framesOf h1 s1, idOk f := by
 rw [aw_frames]
 decide
theorem aw_first : (frameS 1 ⟨#[1, 10, 5, 0, 0, 2]⟩).data.toList.take 8 = [1, 6, 1, 10, 5, 0, 0, 2] := by
 unfold frameS
 rw [hs_lo (by decide)]
 generalize halfS _ = Z
 show (((strB [1] ++ strB [6] ++ ⟨#[1, 10, 5, 0, 0, 2]⟩ : ByteArray) ++ Z).data.toList).take 8 = _
 rw [ByteArray.data_append, Array.toList_append, List.take_append_of_le_length (by decide)]
 rfl
theorem aw_d : ∃ d : ByteArray, joinR (framesOf h1 s1) = (d, 0) ∧ d.size = 59 ∧ d.extract 0 8 = ⟨#[1, 6, 1, 10, 5, 0, 0, 2]⟩ := by
 refine ⟨_, if_pos aw_ok, ?_, ?_⟩
 ·show ((joinU (framesOf h1 s1)).toArray).size = 59
  rw [aw_frames]
  unfold joinU bytesU
  simp only [List.size_toArray, List.flatMap_cons, List.flatMap_nil, List.length_append, List.length_nil]
  repeat rw [fs_len (by decide)]
  rfl
 ·apply ByteArray.ext
  apply Array.toList_inj.1
  rw [ByteArray.data_extract]
  show (((joinU (framesOf h1 s1)).toArray).extract 0 8).toList = _
  rw [Array.toList_extract, List.extract_eq_take_drop, List.drop_zero, aw_frames]
  unfold joinU bytesU
  simp only [List.flatMap_cons]
  show List.take 8 _ = _
  rw [List.take_append_of_le_length (by rw [fs_len (by decide)]; decide)]
  exact aw_first
end Go.Proofs.YtpgjploaliefdaaGreat.im
