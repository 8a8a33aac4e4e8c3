/- Layer 11's raw numbers, as they come in. No conditions. -/
import Derived.Test.YtpgjploaliefdaaGreatG09
namespace Go.Proofs.YtpgjploaliefdaaGreat.rh
open Go.ChangeShapes Go.WideShapes Go.ChangeAt Go.RowKit Go.Joins Go.Proofs.YtpgjploaliefdaaGreat.gr Go.Proofs.YtpgjploaliefdaaGreat.lx Go.Proofs.YtpgjploaliefdaaGreat.hp
set_option linter.unusedVariables false
set_option linter.unusedSimpArgs false
set_option maxRecDepth 100000
section
variable {H : Type} {enc : TypeId × Value → H} {w : World} {base : Nat} {spare : Nat → Bool} {held : Bool} {P : Program}
theorem rin_cell {α : Type} {k : Nat} {en : α → List Value} {ok : α → Prop} {T E : TypeId} {c : Value} {m0 : Nat} {y0 : DataW H × List MemPlace} (hT : P.underlying T = some (.slice E)) (hC : P.cellsOf E = k) (hk0 : 0 < k)
    (hrd : ∀ (n : Nat) (cs : List Value) (y : DataW H × List MemPlace), DataW.trod enc P w base spare held n E cs = some y → ∃ x : α, cs = en x ∧ (en x).length = k ∧ ok x)
    (hf : DataW.trod enc P w base spare held m0 T [c] = some y0) : ∃ l : List α, RIn k en w c l ∧ ∀ x ∈ l, ok x := by
  rcases Go.Deep.open_slice hT hf with ⟨hcs, _⟩ | ⟨a, len, cap, m, n, D, Pl, hcs, _, hl, hm, hmm, _, hx⟩
  · simp at hcs
    subst hcs
    exact ⟨[], RIn.nil, fun x hx => by simp at hx⟩
  · simp at hcs
    subst hcs
    have hml : len ≤ m := by rw [hmm]; split <;> omega
    have key : ∀ i, i < len → ∃ x : α, (∀ j y, (en x)[j]? = some y → w.cell? ((a.add (i * k)).add j) = some y) ∧ (en x).length = k ∧ ok x := by
      intro i hi
      obtain ⟨cs', h1, h2⟩ := hx i (by omega)
      rw [hC] at h1
      obtain ⟨_, hz, hcell⟩ := World.cells?_some h1
      obtain ⟨x, rfl, hlk, hok⟩ := hrd _ _ _ h2
      refine ⟨x, fun j y hy => ?_, hlk, hok⟩
      have hj : j < (en x).length := by
        rcases Nat.lt_or_ge j (en x).length with h | h
        · exact h
        · rw [List.getElem?_eq_none h] at hy; cases hy
      rw [hcell j (by omega), hy]
    obtain ⟨l, hll, hp⟩ := choose_l key
    refine ⟨l, ?_, fun x hx => ?_⟩
    · have hspot : 0 < len → a = ⟨a.block, a.off, none⟩ ∧ a.block < w.heap.size := fun h0 => by
        have hx0 : l[0]? = some l[0] := List.getElem?_eq_getElem (by omega)
        obtain ⟨h1, h2, _⟩ := hp 0 _ hx0
        have hlt : 0 < (en l[0]).length := by omega
        have h3 := h1 0 _ (List.getElem?_eq_getElem hlt)
        rw [Nat.zero_mul] at h3
        have e0 : (a.add 0).add 0 = a := by unfold Addr.add; simp
        rw [e0] at h3
        exact ⟨spot_of h3, World.block_lt_of_cell? _ _ h3⟩
      refine RIn.mk (ad := some a) (b := a.block) (off := a.off) (cap := cap) (by rw [hll]) (fun h0 => by rw [← (hspot (by omega)).1]) (fun e => by cases e) (by omega) (by unfold maxLen at hm; omega) (fun h0 => (hspot (by omega)).2) (fun i j x y hx hy => ?_)
      have hi : i < len := by
        rcases Nat.lt_or_ge i l.length with h | h
        · omega
        · rw [List.getElem?_eq_none h] at hx; cases hx
      have h1 := (hp i x hx).1 j y hy
      have hs := (hspot (by omega)).1
      have e : (a.add (i * k)).add j = ⟨a.block, a.off + i * k + j, none⟩ := by
        obtain ⟨b, o, s⟩ := a
        have hs2 : s = none := by simpa using hs
        subst hs2
        unfold Addr.add
        by_cases h1 : i * k = 0 <;> by_cases h2 : j = 0 <;> simp [h1, h2]
      rw [← e]
      exact h1
    · obtain ⟨i, hi, rfl⟩ := List.getElem_of_mem hx
      exact (hp i _ (List.getElem?_eq_getElem hi)).2.2
theorem trod_struct7 {t : TypeId} {f0 f1 f2 f3 f4 f5 f6 : Field} {fuel : Nat} {cs : List Value} {x : DataW H × List MemPlace} (ht : P.underlying t = some (.struct #[f0, f1, f2, f3, f4, f5, f6])) (h : DataW.trod enc P w base spare held fuel t cs = some x) :
    ∃ y0 y1 y2 y3 y4 y5 y6 n, cs.length = P.cellsOf t ∧ DataW.trod enc P w base spare held n f0.type ((cs.drop f0.offset).take (P.cellsOf f0.type)) = some y0 ∧ DataW.trod enc P w base spare held n f1.type ((cs.drop f1.offset).take (P.cellsOf f1.type)) = some y1 ∧
      DataW.trod enc P w base spare held n f2.type ((cs.drop f2.offset).take (P.cellsOf f2.type)) = some y2 ∧ DataW.trod enc P w base spare held n f3.type ((cs.drop f3.offset).take (P.cellsOf f3.type)) = some y3 ∧ DataW.trod enc P w base spare held n f4.type ((cs.drop f4.offset).take (P.cellsOf f4.type)) = some y4 ∧
      DataW.trod enc P w base spare held n f5.type ((cs.drop f5.offset).take (P.cellsOf f5.type)) = some y5 ∧ DataW.trod enc P w base spare held n f6.type ((cs.drop f6.offset).take (P.cellsOf f6.type)) = some y6 := by
  obtain ⟨xs, n, _, rfl, hl, hlen, hf⟩ := DataW.trod_struct ht h
  match xs, hlen with
  | [y0, y1, y2, y3, y4, y5, y6], _ => exact ⟨y0, y1, y2, y3, y4, y5, y6, n, hl, by simpa using hf 0 f0 rfl, by simpa using hf 1 f1 rfl, by simpa using hf 2 f2 rfl, by simpa using hf 3 f3 rfl, by simpa using hf 4 f4 rfl, by simpa using hf 5 f5 rfl, by simpa using hf 6 f6 rfl⟩
end
section
variable {H : Type} {enc : TypeId × Value → H} {w : World} {base : Nat} {spare : Nat → Bool} {held : Bool}
def NodeOk (w : World) (a : Sl × Sl) : Prop := ∃ b : List Int × List Int, NodeIn w a b ∧ (∀ c ∈ b.1, I64 c) ∧ ∀ d ∈ b.2, U64 d
theorem ints_cell {c : Value} {n : Nat} {y : DataW H × List MemPlace} (h : DataW.trod enc Tryz.prog w base spare held n 23 [c] = some y) : ∃ l : List Int, RIn 1 enI w c l ∧ ∀ x ∈ l, I64 x :=
  rin_cell (P := Tryz.prog) Tryz.underlying23 (by kernel_rfl) (by omega) (fun n cs y h => by
    obtain ⟨x, rfl, hw⟩ := int_cells Tryz.underlying3 h
    exact ⟨x, rfl, rfl, wfb_i64 hw⟩) h
theorem nums_cell {c : Value} {n : Nat} {y : DataW H × List MemPlace} (h : DataW.trod enc Tryz.prog w base spare held n 29 [c] = some y) : ∃ l : List Int, RIn 1 enU w c l ∧ ∀ x ∈ l, U64 x :=
  rin_cell (P := Tryz.prog) Tryz.underlying29 (by kernel_rfl) (by omega) (fun n cs y h => by
    obtain ⟨x, rfl, hw⟩ := int_cells Tryz.underlying24 h
    exact ⟨x, rfl, rfl, wfb_u64 hw⟩) h
theorem rin_sl {α : Type} {k : Nat} {en : α → List Value} {W : World} {v : Value} {zs : List α} (h : RIn k en W v zs) : ∃ s : Sl, v = slV s := by
  obtain ⟨ad, b, off, cap, e, _⟩ := h.form
  exact ⟨(ad, zs.length, cap), e⟩
theorem node_cells {n : Nat} {cs : List Value} {y : DataW H × List MemPlace} (h : DataW.trod enc Tryz.prog w base spare held n 145 cs = some y) : ∃ a : Sl × Sl, cs = enN a ∧ (enN a).length = 2 ∧ NodeOk w a := by
  obtain ⟨y0, y1, m, rfl, hl, h0, h1⟩ := trod_struct2 Tryz.underlying145 h
  have hC : Program.cellsOf Tryz.prog 145 = 2 := by kernel_rfl
  have hi : Program.cellsOf Tryz.prog 23 = 1 := by kernel_rfl
  have hs : Program.cellsOf Tryz.prog 29 = 1 := by kernel_rfl
  rw [hC] at hl
  match cs, hl with
  | [c0, c1], _ =>
    have h0' : DataW.trod enc Tryz.prog w base spare held m 23 (([c0, c1].drop 0).take (Program.cellsOf Tryz.prog 23)) = some y0 := h0
    have h1' : DataW.trod enc Tryz.prog w base spare held m 29 (([c0, c1].drop 1).take (Program.cellsOf Tryz.prog 29)) = some y1 := h1
    rw [hi] at h0'
    rw [hs] at h1'
    simp only [List.drop_zero, List.drop_succ_cons, List.take_succ_cons, List.take_zero] at h0' h1'
    obtain ⟨l0, r0, k0⟩ := ints_cell h0'
    obtain ⟨l1, r1, k1⟩ := nums_cell h1'
    obtain ⟨s0, rfl⟩ := rin_sl r0
    obtain ⟨s1, rfl⟩ := rin_sl r1
    exact ⟨(s0, s1), rfl, rfl, (l0, l1), ⟨r0, r1⟩, k0, k1⟩
open Classical in
theorem nodes_cell {c : Value} {n : Nat} {y : DataW H × List MemPlace} (h : DataW.trod enc Tryz.prog w base spare held n 22 [c] = some y) : ∃ l : List (List Int × List Int), NodesIn w c l ∧ ∀ b ∈ l, (∀ c ∈ b.1, I64 c) ∧ ∀ d ∈ b.2, U64 d := by
  obtain ⟨vs, h1, h2⟩ := rin_cell (P := Tryz.prog) (k := 2) (en := enN) (ok := NodeOk w) Tryz.underlying22 (by kernel_rfl) (by omega) (fun n cs y h => node_cells h) h
  let g : Sl × Sl → List Int × List Int := fun a => if e : NodeOk w a then Classical.choose e else ([], [])
  have hg : ∀ a ∈ vs, NodeIn w a (g a) ∧ (∀ c ∈ (g a).1, I64 c) ∧ ∀ d ∈ (g a).2, U64 d := fun a ha => by
    have e := h2 a ha
    have : g a = Classical.choose e := dif_pos e
    rw [this]
    exact Classical.choose_spec e
  refine ⟨vs.map g, ⟨vs, by simp, h1, fun i a b ha hb => ?_⟩, fun b hb => ?_⟩
  · rw [List.getElem?_map, ha] at hb
    cases hb
    exact (hg a (List.mem_of_getElem? ha)).1
  · obtain ⟨a, ha, rfl⟩ := List.mem_map.1 hb
    exact (hg a ha).2
theorem rawh_arg {r : Reach} {b0 : Nat} {v : Value} {d : DataW H} {p : List MemPlace} (hv : Value.okWide Tryz.prog w r b0 26 v) (h : DataW.Trod enc Tryz.prog w base spare held 26 v d p) :
    ∃ (X : Xv) (x : Rh), v = .agg (xCells X x) ∧ XIn w X x := by
  obtain ⟨cs, rfl, hsz⟩ := okWide_struct Tryz.underlying26 hv
  obtain ⟨fuel, hf⟩ := h
  obtain ⟨y0, y1, y2, y3, y4, y5, y6, m, hl, h0, h1, h2, h3, h4, h5, h6⟩ := trod_struct7 Tryz.underlying26 hf
  have hC : Program.cellsOf Tryz.prog 26 = 7 := by kernel_rfl
  have hn : Program.cellsOf Tryz.prog 22 = 1 := by kernel_rfl
  have hi : Program.cellsOf Tryz.prog 23 = 1 := by kernel_rfl
  have hu : Program.cellsOf Tryz.prog 24 = 1 := by kernel_rfl
  have hj : Program.cellsOf Tryz.prog 3 = 1 := by kernel_rfl
  have hcs : (Value.agg cs).cells.toList = cs.toList := by simp [Value.cells]
  rw [hC, hcs] at hl
  rw [hcs] at h0 h1 h2 h3 h4 h5 h6
  obtain ⟨L, rfl⟩ : ∃ L, cs = L.toArray := ⟨cs.toList, by simp⟩
  simp only [List.toList_toArray] at hl h0 h1 h2 h3 h4 h5 h6
  match L, hl with
  | [c0, c1, c2, c3, c4, c5, c6], _ =>
    have h0' : DataW.trod enc Tryz.prog w base spare held m 22 (([c0, c1, c2, c3, c4, c5, c6].drop 0).take (Program.cellsOf Tryz.prog 22)) = some y0 := h0
    have h1' : DataW.trod enc Tryz.prog w base spare held m 23 (([c0, c1, c2, c3, c4, c5, c6].drop 1).take (Program.cellsOf Tryz.prog 23)) = some y1 := h1
    have h2' : DataW.trod enc Tryz.prog w base spare held m 23 (([c0, c1, c2, c3, c4, c5, c6].drop 2).take (Program.cellsOf Tryz.prog 23)) = some y2 := h2
    have h3' : DataW.trod enc Tryz.prog w base spare held m 24 (([c0, c1, c2, c3, c4, c5, c6].drop 3).take (Program.cellsOf Tryz.prog 24)) = some y3 := h3
    have h4' : DataW.trod enc Tryz.prog w base spare held m 3 (([c0, c1, c2, c3, c4, c5, c6].drop 4).take (Program.cellsOf Tryz.prog 3)) = some y4 := h4
    have h5' : DataW.trod enc Tryz.prog w base spare held m 3 (([c0, c1, c2, c3, c4, c5, c6].drop 5).take (Program.cellsOf Tryz.prog 3)) = some y5 := h5
    have h6' : DataW.trod enc Tryz.prog w base spare held m 3 (([c0, c1, c2, c3, c4, c5, c6].drop 6).take (Program.cellsOf Tryz.prog 3)) = some y6 := h6
    rw [hn] at h0'
    rw [hi] at h1' h2'
    rw [hu] at h3'
    rw [hj] at h4' h5' h6'
    simp only [List.drop_zero, List.drop_succ_cons, List.take_succ_cons, List.take_zero] at h0' h1' h2' h3' h4' h5' h6'
    obtain ⟨l0, r0, k0⟩ := nodes_cell h0'
    obtain ⟨l1, r1, k1⟩ := ints_cell h1'
    obtain ⟨l2, r2, k2⟩ := ints_cell h2'
    obtain ⟨a3, e3, _, w3⟩ := DataW.trod_int Tryz.underlying24 h3'
    obtain ⟨a4, e4, _, w4⟩ := DataW.trod_int Tryz.underlying3 h4'
    obtain ⟨a5, e5, _, w5⟩ := DataW.trod_int Tryz.underlying3 h5'
    obtain ⟨a6, e6, _, w6⟩ := DataW.trod_int Tryz.underlying3 h6'
    simp at e3 e4 e5 e6
    subst e3 e4 e5 e6
    obtain ⟨vs, hvs1, hvs2, hvs3⟩ := r0
    obtain ⟨s0, rfl⟩ := rin_sl hvs2
    obtain ⟨s1, rfl⟩ := rin_sl r1
    obtain ⟨s2, rfl⟩ := rin_sl r2
    exact ⟨⟨s0, s1, s2⟩, ⟨l0, l1, l2, a3, a4, a5, a6⟩, rfl, ⟨⟨vs, hvs1, hvs2, hvs3⟩, r1, r2, ⟨fun n hn => (k0 n hn).1, k1, k2, wfb_i64 w4, wfb_i64 w5, wfb_i64 w6⟩, ⟨wfb_u64 w3, fun n hn => (k0 n hn).2⟩⟩⟩
end
end Go.Proofs.YtpgjploaliefdaaGreat.rh
