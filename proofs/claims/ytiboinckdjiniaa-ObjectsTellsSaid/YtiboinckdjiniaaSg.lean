/- Words that are walked: plain laws; append as a step of a region that draws. No conditions. -/
import Derived.Test.YtiboinckdjiniaaSf
import Derived.Deep.RegionHeld3
namespace Go.Proofs.Ytiboinckdjiniaa.ob
open Go.RowKit Go.Proofs.Ytiboinckdjiniaa.hd
set_option linter.unusedVariables false
set_option linter.unusedSimpArgs false
theorem un_pack {s p : Nat} (hs : s ≤ 255) (hp : p ≤ s) : unOk (packV s p) = true ∧ unS (packV s p) = s ∧ unP (packV s p) = p := by
  have hr : rightB s p = true := rightB_mk (by omega)
  have he : packV s p = 2 * s + 131072 * p := by simp [packV, hr]
  have h1 : (2 * (s : Int) + 131072 * p) / 2 % 65536 = s := by omega
  have h2 : (2 * (s : Int) + 131072 * p) / 131072 = p := by omega
  have ho : unOk (packV s p) = true := by
    rw [he]; unfold unOk; rw [h1, h2, hr]; simp; omega
  refine ⟨ho, ?_, ?_⟩
  · unfold unS; rw [if_pos ho, he, h1]
  · unfold unP; rw [if_pos ho, he, h2]
theorem pack_in {s p : Nat} (hs : s ≤ 255) (hp : p ≤ s) : 0 ≤ packV s p ∧ packV s p < 18446744073709551616 := by
  have hr : rightB s p = true := rightB_mk (by omega)
  have he : packV s p = 2 * s + 131072 * p := by simp [packV, hr]
  omega
theorem walkF_obj {zs : List Int} {len f k pos : Nat} {acc : List Ob} {s p : Nat} (hs : s ≤ 255) (hp : p ≤ s) (hh : zs.getD pos 0 = packV s p) (hlen : pos + 1 + s ≤ len) (hptr : ∀ i, i < p → ptrB (zs.getD (pos + 1 + i) 0) = true) :
    walkF bgN zs len (f + 1) k pos acc = walkF bgN zs len f k (pos + 1 + s) (acc ++ [⟨pos, s, p, false, 0⟩]) := by
  obtain ⟨h1, h2, h3⟩ := un_pack hs hp
  have hb : bgN k pos (zs.getD pos 0) = some (⟨pos, s, p, false, 0⟩, k) := by rw [hh]; unfold bgN; rw [if_pos h1, h2, h3]
  have hso : slotsB ⟨pos, s, p, false, 0⟩ zs s = true := by
    rw [slotsB_iff]
    intro i hi
    simp only [slotOk, Int.toNat_natCast]
    by_cases hip : i < p
    · have := hptr i hip
      rw [this]; simp
    · simp; omega
  rw [walkF_step (by omega), hb]
  simp only [Int.toNat_natCast]
  rw [if_neg (by omega), if_pos hso]
theorem step_app {P : Program} {ops : Array Oper} {o : Oper} {a : Act} {Q : Exit → Act → World → Prop} {w : World} {K : Act → World → Prop} {E : Prop} (hg : o.guard = none) (s x : Operand) (t : TypeId)
    (ho : o.op = .call { callee := .builtin .append, args := #[s, x], argTypes := #[t, t] })
    (base : Nat) (e : TypeId) (i : TypeInfo) (z : Value) (size bytes : Nat) (ht : P.underlying t = some (.slice e)) (hi : P.info? e = some i) (hz : i.zero = some z)
    (hsize : i.size = size) (hby : i.bytes = bytes) (hzs : z.cells.size = size) (hsz : 0 < size)
    (v : Value) (n : Nat) (xs : List Value) (hs : a.eval s = v) (hown : w.ownsRow base e size v n xs)
    (u : Value) (m : Nat) (news : List Value) (hx : a.eval x = u) (hsrc : (u = .slice none 0 0 ∧ m = 0 ∧ news = []) ∨ ∃ ad c, u = .slice (some ad) m c ∧ ∀ j y, news[j]? = some y → w.cell? (ad.add j) = some y)
    (hl : news.length = m * size) (h1 : ∀ u ∈ news, u.oneCell' = true)
    (h63 : n + m ≤ maxLen) (hbytes : (n + m) * bytes ≤ 140737488355328) (hbase : base ≤ w.heap.size)
    (h : ∀ v' w', w'.ownsRow base e size v' (n + m) (xs ++ news) → w.grownBy w' v.ownBlock → (v'.ownBlock = v.ownBlock ∨ v'.ownBlock = some w.heap.size) → K (a.put o.dst v') w') :
    if Region.wanted o (yielded ops a.tmps) = true then Oper.wp P o a w K Q else E := by
  have hw : Region.wanted o (yielded ops a.tmps) = true := by simp [Region.wanted, hg]
  rw [if_pos hw]
  rcases hsrc with ⟨rfl, rfl, rfl⟩ | ⟨ad, c, rfl, hnews⟩
  · have hr := run_append_owned_none (P := P) (w := w) base t o.type e i size ht hi v n xs hown
    unfold Oper.wp execOp
    simp only [ho, resolve, invoke, builtin, Sem.run_bind, Sem.run_pure, Result.andThen_ok, List.map_toArray, List.map_cons, List.map_nil, hs, hx, hr]
    exact h v w (by simpa using hown) ⟨rfl, rfl, rfl, Nat.le_refl _, fun _ _ _ => rfl⟩ (.inl rfl)
  · obtain ⟨v', w', hr, h2, h3, h4, h5⟩ := run_append_own_at (P := P) w base t o.type e i z size bytes ht hi hz hsize hby hzs hsz v n xs hown ad m c news hl hnews h1 h63 hbytes hbase
    unfold Oper.wp execOp
    simp only [ho, resolve, invoke, builtin, Sem.run_bind, Sem.run_pure, Result.andThen_ok, List.map_toArray, List.map_cons, List.map_nil, hs, hx, hr]
    exact h v' w' h2 h3 h5
theorem step_nums {ops : Array Oper} {o : Oper} {a : Act} {Q : Exit → Act → World → Prop} {w : World} {K : Act → World → Prop} {E : Prop} (hg : o.guard = none) (s x : Operand)
    (ho : o.op = .call { callee := .builtin .append, args := #[s, x], argTypes := #[22, 22] })
    (B : Nat) (v u : Value) (xs ys : List Int) (hs : a.eval s = v) (hx : a.eval x = u) (hown : OwnNums w B v xs) (hys : NumsIn w u ys) (hbig : xs.length + ys.length < 1000000000000) (hB : B ≤ w.heap.size)
    (h : ∀ v' w', OwnNums w' B v' (xs ++ ys) → w.grownBy w' v.ownBlock → (v'.ownBlock = v.ownBlock ∨ v'.ownBlock = some w.heap.size) → K (a.put o.dst v') w') :
    if Region.wanted o (yielded ops a.tmps) = true then Oper.wp Try.prog o a w K Q else E := by
  obtain ⟨i0, hi, hz0, hz1, hz2⟩ := info_parts info_u64
  refine step_app hg s x _ ho B 24 i0 (.int .u64 0) 1 8 Try.underlying22 hi hz0 hz1 hz2 rfl (by decide) v xs.length (xs.map (fun n : Int => Value.int .u64 n)) hs hown u ys.length (ys.map (fun n : Int => Value.int .u64 n)) hx (src_OwnNums hys) (by simp) (one_OwnNums ys) (by unfold maxLen; omega) (by omega) hB ?_
  intro v' w' h2 h3 h4
  refine h v' w' ?_ h3 h4
  unfold OwnNums
  simpa using h2
theorem OwnNums.form {W : World} {B : Nat} {v : Value} {zs : List Int} (h : OwnNums W B v zs) : ∃ va l vc, v = .slice va l vc ∧ l = zs.length := by
  rcases h.2 with ⟨rfl, h1⟩ | ⟨g, cap, cur, rfl, _⟩
  · rw [h1]; exact ⟨_, _, _, rfl, rfl⟩
  · exact ⟨_, _, _, rfl, rfl⟩
theorem below_app {w w' : World} {o : Obj} {r : Option Nat} (hg : (w.alloc o).grownBy w' r) (hr : ∀ k, r = some k → w.heap.size ≤ k) : Below w.heap.size w w' :=
  ⟨hg.os, hg.tape, hg.output, Nat.le_trans (by simp) hg.size, fun j hj => (hg.block j (by simp; omega) (fun e => by have := hr j e.symm; omega)).trans (Below.heap_alloc _ _ _ hj)⟩
theorem le_alloc {a : Nat} {w : World} {o : Obj} (h : a ≤ w.heap.size) : a ≤ (w.alloc o).heap.size := Nat.le_trans h (by simp)
theorem decSelf {α : Type} [DecidableEq α] (a : α) : decide (a = a) = true := by simp
theorem row_own {w W0 W W' : World} {v : Value} {zs : List Int} (hb : Below w.heap.size w W) (ho : OwnNums W0 w.heap.size v zs) (hg : W.grownBy W' v.ownBlock) : Below w.heap.size w W' := by
  have hol := World.ownsRow.lt ho
  exact ⟨hg.os.trans hb.os, hg.tape.trans hb.tape, hg.output.trans hb.output, Nat.le_trans hb.size hg.size, fun j hj => (hg.block j (Nat.lt_of_lt_of_le hj hb.size) (fun e => by have := hol j e.symm; omega)).trans (hb.block j hj)⟩
theorem OwnNums.block {W : World} {B : Nat} {v : Value} {zs : List Int} (h : OwnNums W B v zs) (h0 : 0 < zs.length) : ∃ g cap, v = .slice (some ⟨g, 0, none⟩) zs.length cap ∧ B ≤ g ∧ g < W.heap.size ∧ ∀ i, i < zs.length → W.cell? ⟨g, i, none⟩ = some (.int .u64 (zs.getD i 0)) ∧ W.frozen? ⟨g, i, none⟩ = false := by
  rcases h.2 with ⟨rfl, h1⟩ | ⟨g, cap, cur, rfl, h1, h2, h3, h4, h5, h6⟩
  · omega
  · have hB : Blk W g cur 24 := Blk.of h2
    obtain ⟨lg, cg, fg⟩ := hB.get
    refine ⟨g, cap, rfl, h1, lg, fun i hi => ⟨?_, fg i⟩⟩
    have h7 := World.ownsRow.cells h (g := g) rfl i (.int .u64 (zs.getD i 0)) (by simp [List.getD, List.getElem?_eq_getElem hi])
    have e : (⟨g, 0, none⟩ : Addr).add i = ⟨g, i, none⟩ := by unfold Addr.add; split <;> simp_all
    rw [e] at h7
    exact h7
theorem OwnNums.set {W : World} {B g l c k : Nat} {zs : List Int} (h : OwnNums W B (.slice (some ⟨g, 0, none⟩) l c) zs) (x : Int) : OwnNums (W.setCell ⟨g, k, none⟩ (.int .u64 x)) B (.slice (some ⟨g, 0, none⟩) l c) (zs.set k x) := by
  rcases h.2 with ⟨h0, _⟩ | ⟨g', cap, cur, h0, h1, h2, h3, h4, h5, h6⟩
  · cases h0
  · cases h0
    have hB : Blk W g cur 24 := Blk.of h2
    refine ⟨by simp, .inr ⟨g, c, cur.setIfInBounds k (.int .u64 x), by simp, h1, (hB.set k (.int .u64 x)).raw, by simpa using h3, h4, by simpa using h5, ?_⟩⟩
    rw [List.map_set, ← h6]
    simp [List.take_set]
theorem small_set {zs : List Int} (h : Small zs) {x : Int} (hx : 0 ≤ x ∧ x < 18446744073709551616) (k : Nat) : Small (zs.set k x) := by
  intro i
  have := h i
  simp only [List.getD, List.getElem?_set] at this ⊢
  split
  · split
    · exact hx
    · simp
  · exact this
theorem getD_set {zs : List Int} {k i : Nat} {x : Int} (hk : k < zs.length) : (zs.set k x).getD i 0 = if i = k then x else zs.getD i 0 := by
  simp only [List.getD, List.getElem?_set]
  by_cases h : i = k
  · subst h; simp [hk]
  · rw [if_neg (fun e => h e.symm), if_neg h]
theorem ptrs_set {ys : List Int} {k p : Nat} {x : Int} (hk : k < ys.length) (h : ptrsOk ys p) : ptrsOk (ys.set k x) p ↔ (k < p → ptrB x = true) := by
  constructor
  · intro q hkp
    have := q k hkp
    rw [getD_set hk, if_pos rfl] at this
    exact this
  · intro q i hi
    rw [getD_set hk]
    split
    · rename_i e; subst e; exact q hi
    · exact h i hi
theorem adE_bad {x : Int} : adE x = 3 ↔ ptrB x = false := by
  unfold adE ptrB
  rw [decide_eq_false_iff_not]
  split
  · simp_all
  · split
    · simp; omega
    · simp; omega
theorem obs_at {W : World} {B : Nat} {v : Value} {l : List Ob} (h : ObsAt W B v l) (h0 : 0 < l.length) : ∃ g cap, v = .slice (some ⟨g, 0, none⟩) l.length cap ∧ B ≤ g ∧ g < W.heap.size ∧ ObjsAt W g 0 l.length l := by
  rcases h.2 with ⟨rfl, h1⟩ | ⟨g, cap, cur, rfl, h1, h2, h3, h4, h5, h6⟩
  · omega
  · have hB : Blk W g cur 53 := Blk.of h2
    refine ⟨g, cap, rfl, h1, hB.lt, ObjsAt.of fun i hi => ?_⟩
    have key : ∀ j u, j < 5 → (obCells (obD l i))[j]? = some u → W.cell? ⟨g, 0 + i * 5 + j, none⟩ = some u := by
      intro j u hj hu
      have h7 := World.ownsRow.cells h (g := g) rfl (i * 5 + j) u (by rw [flatO_get l i j hi hj]; exact hu)
      have e : (⟨g, 0, none⟩ : Addr).add (i * 5 + j) = ⟨g, 0 + i * 5 + j, none⟩ := by unfold Addr.add; split <;> simp_all
      rw [e] at h7
      exact h7
    exact ⟨key 0 _ (by omega) rfl, key 1 _ (by omega) rfl, key 2 _ (by omega) rfl, key 3 _ (by omega) rfl, key 4 _ (by omega) rfl⟩
theorem walk_one {s p : Nat} {ys : List Int} (hs : s ≤ 255) (hp : p ≤ s) (hl : ys.length = s) (hq : ptrsOk ys p) : walkF bgN (packV s p :: ys) (packV s p :: ys).length ((packV s p :: ys).length + 1) 0 0 [] = .ok [⟨0, s, p, false, 0⟩] 0 := by
  rw [walkF_obj (s := s) (p := p) hs hp (by simp) (by simp; omega) (fun i hi => by
    have := hq i hi
    rw [show 0 + 1 + i = i + 1 from by omega]
    simpa using this)]
  have e : (packV s p :: ys).length = s + 1 := by simp; omega
  rw [e]
  exact walkF_end (by omega)
/-- Lay with too many, or too few slots. -/
theorem lay_short (s p : Int) (ad : Option Addr) (n cap : Nat) (w : World) (h : (n : Int) ≠ s) :
    Calls Try.prog 20 #[.agg #[.int .i64 s, .int .i64 p], .slice ad n cap] w fun e w' => e = .returned (.tuple #[.slice none 0 0, .int .i64 1]) ∧ Below w.heap.size w w' := by
  have hbq : (((n : Nat) : Int) == s) = false := beq_eq_false_iff_ne.mpr h
  rcases hr : rightB s p with _ | _
  · have hE := packE_no hr
    go_enter Try.func20, Try.ntmps20
    go_wp2_with fail
    refine (pack_any s p _).mono ?_; rintro e w1 ⟨rfl, k1⟩
    rw [hE]
    go_wp2_with fail
    go_ret2
    exact ⟨rfl, by (repeat (first | with_reducible exact Below.refl _ _ | with_reducible refine kp_alloc ?_ _ | with_reducible refine kp_drew ?_ | with_reducible refine kp_set ?_ (by first | omega | (simp; done) | (simp; omega)) _ | with_reducible refine kp_tr ?_ (by with_reducible assumption)))⟩
  · have hE := packE_ok hr
    go_enter Try.func20, Try.ntmps20
    go_wp2_with fail
    refine (pack_any s p _).mono ?_; rintro e w1 ⟨rfl, k1⟩
    rw [hE]
    have Ks : Blk w1 w.heap.size #[.int .i64 s, .int .i64 p] 28 := Blk.tr (by (repeat (first | with_reducible assumption | exact Blk.mk rfl | exact Blk.mk (by simp) | refine Blk.drew ?_ | refine Blk.alloc ?_ _ | refine Blk.tr ?_ (by with_reducible assumption)))) k1
    obtain ⟨ls, cs, fs⟩ := Ks.get
    have HB1 : Below w.heap.size w w1 := by (repeat (first | with_reducible exact Below.refl _ _ | with_reducible refine kp_alloc ?_ _ | with_reducible refine kp_drew ?_ | with_reducible refine kp_set ?_ (by first | omega | (simp; done) | (simp; omega)) _ | with_reducible refine kp_tr ?_ (by with_reducible assumption)))
    go_wp2_with fail
    go_ret2
    exact ⟨rfl, HB1⟩
theorem lay_ok {B : Nat} {S p : Nat} {ys : List Int} {e : Ending} {W : World} (h : LayPost B S p ys e W) (hS : S ≤ 255) (hp : p ≤ S) (hl : ys.length = S) (hq : ptrsOk ys p) : ∃ v, e = .returned (.tuple #[v, .int .i64 0]) ∧ OwnNums W B v (packV S p :: ys) := by
  have hok : layOk S p ys := ⟨rightB_mk (by omega), by omega⟩
  rcases h with ⟨h, _⟩ | ⟨_, h, _⟩ | ⟨_, _, h⟩
  · exact absurd hok h
  · exact absurd (by simpa using hq) h
  · exact h
theorem lay_no {B : Nat} {S p : Nat} {ys : List Int} {e : Ending} {W : World} (h : LayPost B S p ys e W) (hS : S ≤ 255) (hp : p ≤ S) (hl : ys.length = S) (hq : ¬ ptrsOk ys p) : e = .returned (.tuple #[.slice none 0 0, .int .i64 3]) := by
  have hok : layOk S p ys := ⟨rightB_mk (by omega), by omega⟩
  rcases h with ⟨h, _⟩ | ⟨_, _, h⟩ | ⟨_, h, _⟩
  · exact absurd hok h
  · exact h
  · exact absurd (by simpa using h) hq
end Go.Proofs.Ytiboinckdjiniaa.ob
