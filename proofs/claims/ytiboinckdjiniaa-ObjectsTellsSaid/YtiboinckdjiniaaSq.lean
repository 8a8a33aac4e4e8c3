/- Words of raw objects: the walk. No conditions. -/
import Derived.Test.YtiboinckdjiniaaSp
import Derived.Deep.DeepCutAuto
import Derived.Deep.CutRange
import Derived.Deep.RegionHeld3
namespace Go.Proofs.Ytiboinckdjiniaa.ob
open Go.RowKit Go.Proofs.Ytiboinckdjiniaa.hd
set_option linter.unusedVariables false
set_option linter.unusedSimpArgs false
theorem RawOk.tr {W w : World} {r : Rw} (h : RawOk W r) (hb : Below W.heap.size W w) : RawOk w r := ⟨h.sl.tr hb, h.sz, h.pt⟩
theorem RawsIn.tr {W w : World} {v : Value} {l : List Rw} (h : RawsIn W v l) (hb : Below W.heap.size W w) : RawsIn w v l := by
  obtain ⟨ad, b, off, cap, e, h1, h2, h3, h4⟩ := h
  refine ⟨ad, b, off, cap, e, fun h0 => ⟨(h1 h0).1, Nat.lt_of_lt_of_le (h1 h0).2 hb.size⟩, h2, h3, fun i hi => ?_⟩
  obtain ⟨c0, c1, c2, c3, hok⟩ := h4 i hi
  exact ⟨cell_tr hb c0, cell_tr hb c1, cell_tr hb c2, cell_tr hb c3, hok.tr hb⟩
theorem raw_one {W : World} {r : Rw} (h : RawOk W r) : r.sl.oneCell' = true ∧ ∃ a l c, r.sl = .slice a l c := by
  obtain ⟨_, _, _, e, _⟩ := h.sl
  exact ⟨by rw [e]; rfl, _, _, _, e⟩
/-- What Words hands back. -/
def WordsPost (B : Nat) (old : Bool) (L : List Rw) (n : Nat) (e : Ending) (W : World) : Prop :=
  ∃ (pcs : List Pc) (v u : Value), e = .returned (.tuple #[v, u]) ∧ pcs.length = min n 8 ∧ PcsOk old L pcs ∧ OwnNums W B v (wordsOf pcs) ∧ OwnShapes W B u (shapesOf pcs)
theorem grow_to {w W W' : World} {r : Option Nat} (h : W.grownBy W' r) (k : Below W'.heap.size W' w) : W.grownBy w r := h.trans (below_grown k r)
theorem own_block2 {W : World} {B : Nat} {v : Value} {zs : List Int} (h : OwnNums W B v zs) (h0 : 0 < zs.length) : ∃ g l c, v = .slice (some ⟨g, 0, none⟩) l c ∧ l = zs.length := by
  obtain ⟨g, c, e, _⟩ := h.block h0
  exact ⟨g, _, c, e, rfl⟩
theorem small_zeros (n : Nat) : Small (List.replicate n 0) := fun i => by
  simp only [List.getD, List.getElem?_replicate]
  split <;> simp
/-- Two slices of one's own that lie in blocks apart. -/
def Apart (v u : Value) : Prop := v.ownBlock = none ∨ v.ownBlock ≠ u.ownBlock
theorem Apart.sym {v u : Value} (h : Apart v u) : Apart u v := by
  unfold Apart at *
  rcases h with h | h
  · rcases hu : u.ownBlock with _ | k
    · exact .inl rfl
    · exact .inr (by rw [h]; simp)
  · exact .inr (fun e => h e.symm)
theorem Apart.left {v v' u : Value} {N : Nat} (h : Apart v u) (hat : v'.ownBlock = v.ownBlock ∨ v'.ownBlock = some N) (hu : ∀ k, u.ownBlock = some k → k < N) : Apart v' u := by
  unfold Apart at *
  rcases hat with e | e
  · rw [e]; exact h
  · refine .inr (fun e2 => ?_)
    rw [e] at e2
    have := hu N e2.symm
    omega
theorem own_lt {W : World} {B : Nat} {v : Value} {zs : List Int} (h : OwnNums W B v zs) {N : Nat} (hN : W.heap.size ≤ N) : ∀ k, v.ownBlock = some k → k < N := fun k hk => by have := World.ownsRow.lt h k hk; omega
theorem owns_lt {W : World} {B : Nat} {v : Value} {zs : List (Int × Int)} (h : OwnShapes W B v zs) {N : Nat} (hN : W.heap.size ≤ N) : ∀ k, v.ownBlock = some k → k < N := fun k hk => by have := World.ownsRow.lt h k hk; omega
theorem ne_own {v : Value} {N : Nat} (h : ∀ k, v.ownBlock = some k → k < N) : v.ownBlock ≠ some N := fun e => by have := h N e; omega
theorem rows_own {w W0 W W' : World} {v : Value} {zs : List (Int × Int)} (hb : Below w.heap.size w W) (ho : OwnShapes W0 w.heap.size v zs) (hg : W.grownBy W' v.ownBlock) : Below w.heap.size w W' := by
  have hol := World.ownsRow.lt ho
  exact ⟨hg.os.trans hb.os, hg.tape.trans hb.tape, hg.output.trans hb.output, Nat.le_trans hb.size hg.size, fun j hj => (hg.block j (Nat.lt_of_lt_of_le hj hb.size) (fun e => by have := hol j e.symm; omega)).trans (hb.block j hj)⟩
theorem gr_refl (W : World) (r : Option Nat) : W.grownBy W r := ⟨rfl, rfl, rfl, Nat.le_refl _, fun _ _ _ => rfl⟩
theorem gr_drew {W X : World} {r : Option Nat} (h : W.grownBy X r) : W.grownBy X.drew r := ⟨h.os, h.tape, h.output, h.size, h.block⟩
theorem st1 {W X Y : World} {v u v' : Value} (gX : W.grownBy X v.ownBlock) (hg : X.grownBy Y v.ownBlock) (hat : v'.ownBlock = v.ownBlock ∨ v'.ownBlock = some X.heap.size) (ha : Apart v u) (hu : ∀ j, u.ownBlock = some j → j < W.heap.size) :
    W.grownBy Y v.ownBlock ∧ Apart v' u ∧ (v'.ownBlock = v.ownBlock ∨ ∃ N, v'.ownBlock = some N ∧ W.heap.size ≤ N) := by
  refine ⟨gX.trans hg, Apart.left ha hat (fun j hj => Nat.lt_of_lt_of_le (hu j hj) gX.size), ?_⟩
  rcases hat with h | h
  · exact .inl h
  · exact .inr ⟨_, h, gX.size⟩
theorem st2 {W X Y : World} {v u v1 v' : Value} (gX : W.grownBy X v.ownBlock) (h1 : v1.ownBlock = v.ownBlock ∨ ∃ N, v1.ownBlock = some N ∧ W.heap.size ≤ N) (hg : X.grownBy Y v1.ownBlock) (hat : v'.ownBlock = v1.ownBlock ∨ v'.ownBlock = some X.heap.size) (ha : Apart v1 u) (hu : ∀ j, u.ownBlock = some j → j < W.heap.size) :
    W.grownBy Y v.ownBlock ∧ Apart v' u := by
  refine ⟨?_, Apart.left ha hat (fun j hj => Nat.lt_of_lt_of_le (hu j hj) gX.size)⟩
  rcases h1 with h | ⟨N, h, hN⟩
  · rw [h] at hg; exact gX.trans hg
  · exact World.grownBy.over gX hg (fun j hj => by rw [h] at hj; cases hj; exact hN)
theorem s4_tr {W w1 : World} (hb : Below W.heap.size W w1) {p q r s : Addr} {v u x y : Value} (h : W.cell? p = some v ∧ W.cell? q = some u ∧ W.cell? r = some x ∧ W.cell? s = some y) : w1.cell? p = some v ∧ w1.cell? q = some u ∧ w1.cell? r = some x ∧ w1.cell? s = some y := ⟨cell_tr hb h.1, cell_tr hb h.2.1, cell_tr hb h.2.2.1, cell_tr hb h.2.2.2⟩
theorem slots_raw2 (sz pt : Int) (sl : Value) (g : Bool) (zs : List Int) (w : World) (hs : RawIn w sl zs) (h1 : i64In sz) (h2 : i64In pt) {S p : Nat} (e1 : pickI sz 7 = (S : Int)) (e2 : pickI pt ((S : Int) + 1) = (p : Int)) (hS : S ≤ 6) :
    Calls Try.prog 24 #[.agg #[.int .i64 sz, .int .i64 pt, sl, .bool g]] w fun e w' => (∃ v ys, e = .returned v ∧ OwnNums w' w.heap.size v ys ∧ SlotsOf S p ys ∧ ys.length < 1000000000000) ∧ Below w.heap.size w w' := by
  refine (slots_raw sz pt sl g zs w hs h1 h2).mono ?_
  rintro e w' ⟨⟨v, ys, rfl, ho, hso⟩, hb⟩
  rw [e1, e2] at hso
  simp only [Int.toNat_natCast] at hso
  exact ⟨⟨v, ys, rfl, ho, hso, by rw [hso.len]; omega⟩, hb⟩
/-- Behind the statement that appends an object's header, and its slots. -/
structure NewPost (w W wx : World) (pcs : List Pc) (S p : Nat) (v u : Value) : Prop where
  slots : ∃ ys, SlotsOf S p ys ∧ OwnNums wx w.heap.size v (wordsOf pcs ++ packV S p :: ys)
  shapes : OwnShapes wx w.heap.size u (shapesOf pcs)
  apart : Apart v u
  below : Below w.heap.size w wx
set_option maxRecDepth 100000 in
set_option maxHeartbeats 16000000 in
theorem words_any (v0 : Value) (old : Bool) (L : List Rw) (w : World) (hL : RawsIn w v0 L) :
    Calls Try.prog 10 #[v0, .bool old] w fun e w' => WordsPost w.heap.size old L L.length e w' ∧ Below w.heap.size w w' := by
  obtain ⟨ad, b, off, cap, rfl, h1, h2, h3, h4⟩ := hL
  have H1 := Lib.hid h1
  have H4 := Lib.hid h4
  clear h1 h4
  generalize hn : L.length = n at *
  have HN := Lib.hid hn
  clear hn
  go_enter Try.func10, Try.ntmps10
  go_wp2_with fail
  go_loopw [8, 6, 7] (fun i v u wr => ∃ (k : Nat) (pcs : List Pc), k ≤ n ∧ k ≤ 8 ∧ i = .int .i64 (k : Int) ∧ Hid (pcs.length = k ∧ PcsOk old L pcs) ∧ Hid (OwnNums wr w.heap.size v (wordsOf pcs)) ∧ Hid (OwnShapes wr w.heap.size u (shapesOf pcs)) ∧ Hid (Apart v u) ∧ Hid (Below w.heap.size w wr)) (fun i _ _ _ => 8 - (intOf i).toNat)
  case atStart => exact ⟨0, [], Nat.zero_le _, Nat.zero_le _, rfl, ⟨rfl, fun i hi => by simp at hi⟩, OwnNums.nil _ _, OwnShapes.nil _ _, .inl rfl, Below.refl _ _⟩
  case round =>
    obtain ⟨k, pcs, hkn, hk8, rfl, hpc, hv, hu, hvu, hb⟩ := hrel
    by_cases hlt : k < n ∧ k < 8
    · obtain ⟨l1, l2⟩ := hlt
      obtain ⟨rfl, hbl⟩ := H1.out (by omega)
      obtain ⟨x0, x1, x2, x3, hok⟩ := H4.out k l1
      have hok2 := hok.tr hb.out
      replace x0 := cell_tr hb.out x0
      replace x1 := cell_tr hb.out x1
      replace x2 := cell_tr hb.out x2
      replace x3 := cell_tr hb.out x3
      have HX := Lib.hid (show _ ∧ _ ∧ _ ∧ _ from ⟨(H4.out k l1).1, (H4.out k l1).2.1, (H4.out k l1).2.2.1, (H4.out k l1).2.2.2.1⟩)
      have HOW := Lib.hid hok
      obtain ⟨hone, hsl⟩ := raw_one hok
      have HOK := Lib.hid hok2
      have HRW : Hid (∀ c, PcOk k old (rwD L k) c → PcsOk old L (pcs ++ [c])) := fun c hc => pcs_snoc hpc.out.1 hpc.out.2 hc
      clear hok hok2
      generalize rwD L k = r at *
      obtain ⟨sz, pt, sl, g, zs⟩ := r
      dsimp only at x0 x1 x2 x3 hone hsl
      obtain ⟨a0, l0, c0, rfl⟩ := hsl
      obtain ⟨hS1, hS2⟩ := pickI_in sz (n := 7) (by omega)
      obtain ⟨hP1, hP2⟩ := pickI_in pt (n := pickI sz 7 + 1) (by omega)
      have l1i : (k : Int) < (n : Int) := by omega
      have l2i : (k : Int) < 8 := by omega
      cases hgo : (old && g) with
      | true =>
        simp at hgo
        obtain ⟨rfl, rfl⟩ := hgo
        go_wp2_with fail
        refine (shape_any sz pt _ true _ hone HOK.out.sz HOK.out.pt).mono ?_; rintro e w1 ⟨rfl, k1⟩
        generalize hSS : pickI sz 7 = sI at *
        generalize hPP : pickI pt (sI + 1) = pI at *
        obtain ⟨S, rfl⟩ := Int.eq_ofNat_of_zero_le hS1
        obtain ⟨p, rfl⟩ := Int.eq_ofNat_of_zero_le hP1
        have HSP : Hid (pickI sz 7 = (S : Int) ∧ pickI pt ((S : Int) + 1) = (p : Int)) := ⟨hSS, hPP⟩
        clear hSS hPP
        have y3 := cell_tr k1 x3
        have hbl1 : b < w1.heap.size := by have := hb.out.size; have := k1.size; omega
        have hne1 : b ≠ w1.heap.size := by omega
        go_upto_region 8 with (fail)
        have HB1 : Hid (Below w.heap.size w w1) := kp_tr hb.out k1
        have HV1 := Lib.hid ((hv.out.tr k1).tr ((Below.refl _ _).alloc (Nat.le_refl _) (.cells #[.int .i64 S, .int .i64 p] 28)))
        have HU1 := Lib.hid ((hu.out.tr k1).tr ((Below.refl _ _).alloc (Nat.le_refl _) (.cells #[.int .i64 S, .int .i64 p] 28)))
        have HB2 : Hid (Below w.heap.size w (w1.alloc (.cells #[.int .i64 S, .int .i64 p] 28))) := HB1.out.alloc (HB1.out.size) _
        have Ks := Blk.new w1 #[.int .i64 S, .int .i64 p] 28
        have hVb : Hid (∀ j, u6.ownBlock = some j → j < w1.heap.size) := own_lt hv.out k1.size
        have hUb : Hid (∀ j, u7.ownBlock = some j → j < w1.heap.size) := owns_lt hu.out k1.size
        clear hv hu k1 HB1 hb
        generalize hW2 : w1.alloc (.cells #[.int .i64 S, .int .i64 p] 28) = w2 at *
        clear hW2
        generalize hsB : w1.heap.size = sB at *
        clear hsB
        have hs2 := Ks.lt
        have hW2s := HB2.out.size
        have hwl := words_len hpc.out.2
        have hsl2 := shapes_len pcs
        have hpl := hpc.out.1
        have HWL : Hid ((wordsOf pcs).length ≤ 56 ∧ (shapesOf pcs).length ≤ 8) := by show _ ∧ _; omega
        clear hwl hsl2 hpl
        go_wp2_with (at_builtin; refine app_OwnNums _ rfl _ _ rfl w.heap.size u6 (.slice (some ⟨w2.heap.size, 0, none⟩) 1 1) (wordsOf pcs) [2 * (100 + (k : Int)) + 1] rfl rfl (HV1.out.tr ((Below.refl _ _).alloc (Nat.le_refl _) _)) (one_nums _ _) ?c0 ?c1 ?c2)
        case c0 => have := HWL.out; simp; omega
        case c1 => exact le_alloc hW2s
        case c2 =>
        intro v3 w3 o3 hg3 hat3
        have h3u : u6.ownBlock ≠ some sB := fun e => by have := hVb.out _ e; omega
        have Ks3 := blk_row (Ks.alloc (.cells #[.int .u64 (2 * (100 + (k : Int)) + 1)] 24)) hg3 h3u
        have HU3 : Hid (OwnShapes w3 w.heap.size u7 (shapesOf pcs)) := (HU1.out.tr ((Below.refl _ _).alloc (Nat.le_refl _) (.cells #[.int .u64 (2 * (100 + (k : Int)) + 1)] 24))).row hg3 hvu.out.sym
        have HB3 : Hid (Below w.heap.size w w3) := row_own (HB2.out.alloc hW2s _) HV1.out hg3
        have HA3 : Hid (Apart v3 u7) := Apart.left hvu.out hat3 (fun j hj => by have := hUb.out j hj; simp; omega)
        obtain ⟨g3, l3, c3, rfl, hl3⟩ := own_block2 o3 (by simp)
        have hne3 : Hid (some g3 ≠ some sB) := fun e => by
          cases e
          rcases hat3 with h | h
          · exact h3u h.symm
          · simp [Value.ownBlock] at h; omega
        have O3 := Lib.hid o3
        have HL3 := Lib.hid hl3
        have hs3 := HB3.out.size
        clear o3 hl3 hat3 hg3 h3u HU1 HV1 HB2 Ks hW2s hs2
        obtain ⟨lk, ck, fk⟩ := Ks3.get
        go_wp2_with (at_builtin; refine app_zeros _ rfl _ _ rfl w.heap.size g3 l3 c3 S (wordsOf pcs ++ [2 * (100 + (k : Int)) + 1]) rfl rfl O3.out HL3.out ?c0 ?c1 ?c2)
        case c0 => have := HWL.out; simp; omega
        case c1 => exact hs3
        case c2 =>
        intro v4 w4 o4 hg4 hat4
        have HU4 : Hid (OwnShapes w4 w.heap.size u7 (shapesOf pcs)) := HU3.out.row hg4 HA3.out.sym
        have HB4 : Hid (Below w.heap.size w w4) := row_own HB3.out O3.out hg4
        have HA4 : Hid (Apart v4 u7) := Apart.left HA3.out hat4 (owns_lt HU3.out (Nat.le_refl _))
        have Ks4 := blk_row Ks3 hg4 hne3.out
        have O4 := Lib.hid o4
        have hs4 := HB4.out.size
        clear o4 hg4 hat4 HU3 HB3 HA3 Ks3 lk ck fk hs3
        obtain ⟨lk, ck, fk⟩ := Ks4.get
        go_wp2_with (at_builtin; refine app_shapes _ rfl _ _ rfl w.heap.size u7 (.slice (some ⟨w4.heap.size, 0, none⟩) 1 1) (shapesOf pcs) [((S : Int), (p : Int))] rfl rfl (HU4.out.tr ((Below.refl _ _).alloc (Nat.le_refl _) _)) (shapes_lit _ _ _ _ (Blk.new _ _ _)) ?c0 ?c1 ?c2)
        case c0 => have := HWL.out; simp; omega
        case c1 => exact le_alloc hs4
        case c2 =>
        intro v5 w5 o5 hg5 hat5
        have HV5 : Hid (OwnNums w5 w.heap.size v4 (wordsOf pcs ++ (2 * (100 + (k : Int)) + 1) :: List.replicate S 0)) := by
          have h := (O4.out.tr ((Below.refl _ _).alloc (Nat.le_refl _) (.cells #[.int .i64 S, .int .i64 p] 28))).row hg5 HA4.out
          show OwnNums _ _ _ _
          simpa using h
        have HB5 : Hid (Below w.heap.size w w5) := rows_own (HB4.out.alloc hs4 _) HU4.out hg5
        have HA5 : Hid (Apart v4 v5) := (Apart.left HA4.out.sym hat5 (own_lt O4.out (by simp))).sym
        have O5 := Lib.hid o5
        clear o5 hg5 hat5 HU4 HB4 HA4 Ks4 lk ck fk O4
        go_wp2_with fail
        refine ⟨⟨k + 1, pcs ++ [⟨2 * (100 + (k : Int)) + 1, S, p, true, List.replicate S 0⟩], by omega, by omega, by go_num, ⟨by have := hpc.out.1; simp; omega, HRW.out _ ?_⟩, ?_, ?_, HA5.out, HB5.out⟩, by simp [intOf]; omega⟩
        · exact ⟨HSP.out.1, HSP.out.2, rfl, by simp, (show S ≤ 6 by omega), (show p ≤ S by omega), small_zeros S, (fun h => by cases h), fun _ => ⟨rfl, rfl⟩⟩
        · rw [words_snoc]
          exact HV5.out
        · rw [shapes_snoc_t _ rfl]
          exact O5.out
      | false =>
        cases old with
        | true =>
          simp at hgo
          subst hgo
          go_wp2_with fail
          refine (shape_any sz pt _ false _ hone HOK.out.sz HOK.out.pt).mono ?_; rintro e w1 ⟨rfl, k1⟩
          generalize hSS : pickI sz 7 = sI at *
          generalize hPP : pickI pt (sI + 1) = pI at *
          obtain ⟨S, rfl⟩ := Int.eq_ofNat_of_zero_le hS1
          obtain ⟨p, rfl⟩ := Int.eq_ofNat_of_zero_le hP1
          have HSP : Hid (pickI sz 7 = (S : Int) ∧ pickI pt ((S : Int) + 1) = (p : Int)) := ⟨hSS, hPP⟩
          clear hSS hPP
          have y3 := cell_tr k1 x3
          have hbl1 : b < w1.heap.size := by have := hb.out.size; have := k1.size; omega
          have hne1 : b ≠ w1.heap.size := by omega
          go_wp2_with fail
          refine (packref_any S p _).mono ?_; rintro e W ⟨rfl, k3⟩
          have hrb : rightB (S : Int) (p : Int) = true := rightB_mk (by omega)
          rw [packE_ok hrb]
          have HB : Hid (Below w.heap.size w W) := by
            have := hb.out
            show Below _ _ _
            (repeat (first | with_reducible exact Below.refl _ _ | with_reducible refine kp_alloc ?_ _ | with_reducible refine kp_drew ?_ | with_reducible refine kp_set ?_ (by first | omega | (simp; done) | (simp; omega)) _ | with_reducible refine kp_tr ?_ (by with_reducible assumption)))
          have hkk : Below wr.heap.size wr W := by (repeat (first | with_reducible exact Below.refl _ _ | with_reducible refine kp_alloc ?_ _ | with_reducible refine kp_drew ?_ | with_reducible refine kp_set ?_ (by first | omega | (simp; done) | (simp; omega)) _ | with_reducible refine kp_tr ?_ (by with_reducible assumption)))
          have HV := Lib.hid (hv.out.tr hkk)
          have HU := Lib.hid (hu.out.tr hkk)
          have HA := Lib.hid hvu.out
          have HU7 : Hid (∀ j, u7.ownBlock = some j → j < W.heap.size) := owns_lt HU.out (Nat.le_refl _)
          have HV6 : Hid (∀ j, u6.ownBlock = some j → j < W.heap.size) := own_lt HV.out (Nat.le_refl _)
          have hWs := HB.out.size
          have HZ : Hid (0 < W.heap.size) := by show 0 < _; omega
          have hwl := words_len hpc.out.2
          have hsl2 := shapes_len pcs
          have hpl := hpc.out.1
          have HL1 : Hid ((wordsOf pcs).length + [packV (S : Int) (p : Int)].length < 1000000000000) := by show _ < _; simp; omega
          have HL2 : Hid (∀ ys : List Int, ys.length = S → (wordsOf pcs ++ [packV (S : Int) (p : Int)]).length + ys.length < 1000000000000) := fun ys h => by simp; omega
          clear hwl hsl2 hpl k1 k3 hb hkk y3 hne1 hbl1 hrb x0 x1 x2 x3 hv hu hvu
          go_upto_region 12 with (fail)
          go_region_held3 (fun w' => w'.cell? ⟨b, off + k * 4, none⟩ = some (.int .i64 sz) ∧ w'.cell? ⟨b, off + k * 4 + 1, none⟩ = some (.int .i64 pt) ∧ w'.cell? ⟨b, off + k * 4 + 2, none⟩ = some (.slice a0 l0 c0) ∧ w'.cell? ⟨b, off + k * 4 + 3, none⟩ = some (.bool false))
            (first | (refine s4_tr (row_own HB.out HV.out ?_) HX.out; (repeat (first | with_reducible exact gr_refl _ _ | with_reducible assumption | with_reducible refine AllocG ?_ _ | with_reducible refine gr_drew ?_))))
            (first
              | (refine step_nums ?_ (.tmp 56) (.tmp 58) ?_ w.heap.size u6 (.slice (some ⟨W.heap.size, 0, none⟩) 1 1) (wordsOf pcs) [packV (S : Int) (p : Int)] ?_ ?_ ?_ ?_ HL1.out ?_ ?_; rfl; rfl; rfl; rfl; (refine HV.out.tr ?_; (repeat (first | with_reducible exact Below.refl _ _ | with_reducible refine kp_alloc ?_ _ | with_reducible refine kp_drew ?_ | with_reducible refine kp_set ?_ (by first | omega | (simp; done) | (simp; omega)) _ | with_reducible refine kp_tr ?_ (by with_reducible assumption)))); (refine (one_nums W (packV (S : Int) (p : Int))).tr ?_; (repeat (first | with_reducible exact Below.refl _ _ | with_reducible refine kp_alloc ?_ _ | with_reducible refine kp_drew ?_ | with_reducible refine kp_set ?_ (by first | omega | (simp; done) | (simp; omega)) _ | with_reducible refine kp_tr ?_ (by with_reducible assumption)))); (first | exact hWs | exact le_alloc hWs); intro v59 w59 o59 hg59 hat59; obtain ⟨g59, ha59, hn59⟩ := st1 (W := W) (u := u7) (by (repeat (first | with_reducible exact gr_refl _ _ | with_reducible assumption | with_reducible refine AllocG ?_ _ | with_reducible refine gr_drew ?_))) hg59 hat59 HA.out HU7.out)
              | (go_at_call 24; refine (slots_raw2 sz pt (.slice a0 l0 c0) false zs _ (HOW.out.sl.tr ?_) HOK.out.sz HOK.out.pt HSP.out.1 HSP.out.2 (by omega)).mono ?_; (refine row_own HB.out HV.out ?_; (repeat (first | with_reducible exact gr_refl _ _ | with_reducible assumption | with_reducible refine AllocG ?_ _ | with_reducible refine gr_drew ?_))); rintro e w64 ⟨⟨v64, ys, rfl, o64, hso, hsl⟩, k64⟩; have g64 : W.grownBy w64 u6.ownBlock := (by refine grow_to ?_ k64; (repeat (first | with_reducible exact gr_refl _ _ | with_reducible assumption | with_reducible refine AllocG ?_ _ | with_reducible refine gr_drew ?_))))
              | (refine step_nums ?_ (.tmp 59) (.tmp 64) ?_ w.heap.size v59 v64 (wordsOf pcs ++ [packV (S : Int) (p : Int)]) ys ?_ ?_ ?_ ?_ (HL2.out ys hso.len) ?_ ?_; rfl; rfl; rfl; rfl; (refine o59.tr ?_; (repeat (first | with_reducible exact Below.refl _ _ | with_reducible refine kp_alloc ?_ _ | with_reducible refine kp_drew ?_ | with_reducible refine kp_set ?_ (by first | omega | (simp; done) | (simp; omega)) _ | with_reducible refine kp_tr ?_ (by with_reducible assumption)))); (exact o64.sees (Nat.lt_of_lt_of_le HZ.out g64.size) hsl); (exact Nat.le_trans hWs g64.size); intro v65 w65 o65 hg65 hat65; obtain ⟨g65, ha65⟩ := st2 (W := W) (u := u7) g64 hn59 hg65 hat65 ha59 HU7.out))
          have HU65 : Hid (OwnShapes w65 w.heap.size u7 (shapesOf pcs)) := HU.out.row g65 HA.out.sym
          have HB65 : Hid (Below w.heap.size w w65) := row_own HB.out HV.out g65
          have HV65 : Hid (OwnNums w65 w.heap.size v65 (wordsOf pcs ++ packV (S : Int) (p : Int) :: ys)) := by
            show OwnNums _ _ _ _
            simpa using o65
          have HA65 := Lib.hid ha65
          have HSO := Lib.hid hso
          clear g65 o65 ha65 hg65 hat65 g64 k64 o64 hso hsl g59 ha59 hn59 o59 hg59 hat59
          go_wp2_with fail
          refine ⟨⟨k + 1, pcs ++ [⟨packV (S : Int) (p : Int), S, p, false, ys⟩], by omega, by omega, by go_num, ⟨by have := hpc.out.1; simp; omega, HRW.out _ ?_⟩, ?_, ?_, HA65.out, HB65.out⟩, by simp [intOf]; omega⟩
          · exact ⟨HSP.out.1, HSP.out.2, rfl, HSO.out.len, (show S ≤ 6 by omega), (show p ≤ S by omega), HSO.out.small, (fun _ => ⟨rfl, HSO.out.ptrs⟩), (fun h => by cases h)⟩
          · rw [words_snoc]
            exact HV65.out
          · rw [shapes_snoc_f _ rfl]
            exact HU65.out
        | false =>
          clear hgo
          go_wp2_with fail
          refine (shape_any sz pt _ g _ hone HOK.out.sz HOK.out.pt).mono ?_; rintro e w1 ⟨rfl, k1⟩
          generalize hSS : pickI sz 7 = sI at *
          generalize hPP : pickI pt (sI + 1) = pI at *
          obtain ⟨S, rfl⟩ := Int.eq_ofNat_of_zero_le hS1
          obtain ⟨p, rfl⟩ := Int.eq_ofNat_of_zero_le hP1
          have HSP : Hid (pickI sz 7 = (S : Int) ∧ pickI pt ((S : Int) + 1) = (p : Int)) := ⟨hSS, hPP⟩
          clear hSS hPP
          have y3 := cell_tr k1 x3
          have hbl1 : b < w1.heap.size := by have := hb.out.size; have := k1.size; omega
          have hne1 : b ≠ w1.heap.size := by omega
          go_wp2_with fail
          refine (packref_any S p _).mono ?_; rintro e W ⟨rfl, k3⟩
          have hrb : rightB (S : Int) (p : Int) = true := rightB_mk (by omega)
          rw [packE_ok hrb]
          have HB : Hid (Below w.heap.size w W) := by
            have := hb.out
            show Below _ _ _
            (repeat (first | with_reducible exact Below.refl _ _ | with_reducible refine kp_alloc ?_ _ | with_reducible refine kp_drew ?_ | with_reducible refine kp_set ?_ (by first | omega | (simp; done) | (simp; omega)) _ | with_reducible refine kp_tr ?_ (by with_reducible assumption)))
          have hkk : Below wr.heap.size wr W := by (repeat (first | with_reducible exact Below.refl _ _ | with_reducible refine kp_alloc ?_ _ | with_reducible refine kp_drew ?_ | with_reducible refine kp_set ?_ (by first | omega | (simp; done) | (simp; omega)) _ | with_reducible refine kp_tr ?_ (by with_reducible assumption)))
          have HV := Lib.hid (hv.out.tr hkk)
          have HU := Lib.hid (hu.out.tr hkk)
          have HA := Lib.hid hvu.out
          have HU7 : Hid (∀ j, u7.ownBlock = some j → j < W.heap.size) := owns_lt HU.out (Nat.le_refl _)
          have HV6 : Hid (∀ j, u6.ownBlock = some j → j < W.heap.size) := own_lt HV.out (Nat.le_refl _)
          have hWs := HB.out.size
          have HZ : Hid (0 < W.heap.size) := by show 0 < _; omega
          have hwl := words_len hpc.out.2
          have hsl2 := shapes_len pcs
          have hpl := hpc.out.1
          have HL1 : Hid ((wordsOf pcs).length + [packV (S : Int) (p : Int)].length < 1000000000000) := by show _ < _; simp; omega
          have HL2 : Hid (∀ ys : List Int, ys.length = S → (wordsOf pcs ++ [packV (S : Int) (p : Int)]).length + ys.length < 1000000000000) := fun ys h => by simp; omega
          clear hwl hsl2 hpl k1 k3 hb hkk y3 hne1 hbl1 hrb x0 x1 x2 x3 hv hu hvu
          go_upto_region 12 with (fail)
          go_region_held3 (fun w' => w'.cell? ⟨b, off + k * 4, none⟩ = some (.int .i64 sz) ∧ w'.cell? ⟨b, off + k * 4 + 1, none⟩ = some (.int .i64 pt) ∧ w'.cell? ⟨b, off + k * 4 + 2, none⟩ = some (.slice a0 l0 c0) ∧ w'.cell? ⟨b, off + k * 4 + 3, none⟩ = some (.bool g))
            (first | (refine s4_tr (row_own HB.out HV.out ?_) HX.out; (repeat (first | with_reducible exact gr_refl _ _ | with_reducible assumption | with_reducible refine AllocG ?_ _ | with_reducible refine gr_drew ?_))))
            (first
              | (refine step_nums ?_ (.tmp 56) (.tmp 58) ?_ w.heap.size u6 (.slice (some ⟨W.heap.size, 0, none⟩) 1 1) (wordsOf pcs) [packV (S : Int) (p : Int)] ?_ ?_ ?_ ?_ HL1.out ?_ ?_; rfl; rfl; rfl; rfl; (refine HV.out.tr ?_; (repeat (first | with_reducible exact Below.refl _ _ | with_reducible refine kp_alloc ?_ _ | with_reducible refine kp_drew ?_ | with_reducible refine kp_set ?_ (by first | omega | (simp; done) | (simp; omega)) _ | with_reducible refine kp_tr ?_ (by with_reducible assumption)))); (refine (one_nums W (packV (S : Int) (p : Int))).tr ?_; (repeat (first | with_reducible exact Below.refl _ _ | with_reducible refine kp_alloc ?_ _ | with_reducible refine kp_drew ?_ | with_reducible refine kp_set ?_ (by first | omega | (simp; done) | (simp; omega)) _ | with_reducible refine kp_tr ?_ (by with_reducible assumption)))); (first | exact hWs | exact le_alloc hWs); intro v59 w59 o59 hg59 hat59; obtain ⟨g59, ha59, hn59⟩ := st1 (W := W) (u := u7) (by (repeat (first | with_reducible exact gr_refl _ _ | with_reducible assumption | with_reducible refine AllocG ?_ _ | with_reducible refine gr_drew ?_))) hg59 hat59 HA.out HU7.out)
              | (go_at_call 24; refine (slots_raw2 sz pt (.slice a0 l0 c0) g zs _ (HOW.out.sl.tr ?_) HOK.out.sz HOK.out.pt HSP.out.1 HSP.out.2 (by omega)).mono ?_; (refine row_own HB.out HV.out ?_; (repeat (first | with_reducible exact gr_refl _ _ | with_reducible assumption | with_reducible refine AllocG ?_ _ | with_reducible refine gr_drew ?_))); rintro e w64 ⟨⟨v64, ys, rfl, o64, hso, hsl⟩, k64⟩; have g64 : W.grownBy w64 u6.ownBlock := (by refine grow_to ?_ k64; (repeat (first | with_reducible exact gr_refl _ _ | with_reducible assumption | with_reducible refine AllocG ?_ _ | with_reducible refine gr_drew ?_))))
              | (refine step_nums ?_ (.tmp 59) (.tmp 64) ?_ w.heap.size v59 v64 (wordsOf pcs ++ [packV (S : Int) (p : Int)]) ys ?_ ?_ ?_ ?_ (HL2.out ys hso.len) ?_ ?_; rfl; rfl; rfl; rfl; (refine o59.tr ?_; (repeat (first | with_reducible exact Below.refl _ _ | with_reducible refine kp_alloc ?_ _ | with_reducible refine kp_drew ?_ | with_reducible refine kp_set ?_ (by first | omega | (simp; done) | (simp; omega)) _ | with_reducible refine kp_tr ?_ (by with_reducible assumption)))); (exact o64.sees (Nat.lt_of_lt_of_le HZ.out g64.size) hsl); (exact Nat.le_trans hWs g64.size); intro v65 w65 o65 hg65 hat65; obtain ⟨g65, ha65⟩ := st2 (W := W) (u := u7) g64 hn59 hg65 hat65 ha59 HU7.out))
          have HU65 : Hid (OwnShapes w65 w.heap.size u7 (shapesOf pcs)) := HU.out.row g65 HA.out.sym
          have HB65 : Hid (Below w.heap.size w w65) := row_own HB.out HV.out g65
          have HV65 : Hid (OwnNums w65 w.heap.size v65 (wordsOf pcs ++ packV (S : Int) (p : Int) :: ys)) := by
            show OwnNums _ _ _ _
            simpa using o65
          have HA65 := Lib.hid ha65
          have HSO := Lib.hid hso
          clear g65 o65 ha65 hg65 hat65 g64 k64 o64 hso hsl g59 ha59 hn59 o59 hg59 hat59
          go_wp2_with fail
          refine ⟨⟨k + 1, pcs ++ [⟨packV (S : Int) (p : Int), S, p, false, ys⟩], by omega, by omega, by go_num, ⟨by have := hpc.out.1; simp; omega, HRW.out _ ?_⟩, ?_, ?_, HA65.out, HB65.out⟩, by simp [intOf]; omega⟩
          · exact ⟨HSP.out.1, HSP.out.2, rfl, HSO.out.len, (show S ≤ 6 by omega), (show p ≤ S by omega), HSO.out.small, (fun _ => ⟨rfl, HSO.out.ptrs⟩), (fun h => by cases h)⟩
          · rw [words_snoc]
            exact HV65.out
          · rw [shapes_snoc_f _ rfl]
            exact HU65.out
    · have hmin : k = min n 8 := by omega
      have htst : Hid (¬ (k : Int) < (n : Int) ∨ ((k : Int) < (n : Int) ∧ ¬ (k : Int) < 8)) := by show _ ∨ _; omega
      have HP : Hid (pcs.length = min n 8 ∧ PcsOk old L pcs) := ⟨by rw [hpc.out.1]; exact hmin, hpc.out.2⟩
      clear hmin hlt
      rcases htst.out with h | ⟨h, h'⟩
      · go_wp2_with fail
        go_ret2
        exact ⟨⟨pcs, _, _, rfl, HP.out.1, HP.out.2, hv.out, hu.out⟩, hb.out⟩
      · go_wp2_with fail
        go_ret2
        exact ⟨⟨pcs, _, _, rfl, HP.out.1, HP.out.2, hv.out, hu.out⟩, hb.out⟩
end Go.Proofs.Ytiboinckdjiniaa.ob
