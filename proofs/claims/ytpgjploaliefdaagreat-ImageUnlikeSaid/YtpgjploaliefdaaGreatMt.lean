/- Layer 11's raw heaps: the heap of raw numbers is laid. No conditions. -/
import Derived.Test.YtpgjploaliefdaaGreatTk
import Derived.Test.YtpgjploaliefdaaGreatMs
namespace Go.Proofs.YtpgjploaliefdaaGreat.rh
open Go Go.RowKit hp ob hd cp ck gr lx
set_option linter.unusedVariables false
set_option linter.unusedSimpArgs false
set_option maxRecDepth 100000
set_option maxHeartbeats 4000000
theorem setV_r (v : Hv) (p : Nat) (u : Value) : (setV v p u).r = v.r := by
 unfold setV
 repeat' split
 all_goals rfl
theorem setV_form {v : Hv} (h : SF v) (hr : v.r = .slice none 0 0) (p : Nat) (a : Option Addr) (n c : Nat) : ∃ l h' o f : Sl, setV v p (.slice a n c) = ⟨slV l, slV h', slV o, slV f, .slice none 0 0⟩ := by
 obtain ⟨l, h', o, f, r, e⟩ := h.setP p a n c
 have := setV_r v p (.slice a n c)
 rw [e, hr] at this
 exact ⟨l, h', o, f, by rw [e]; exact congrArg _ this⟩
theorem setH_b (H : Hp) (p : Nat) (z : List Int) (v : Hv) (a b c d : Value) : builtV (setH H p z) v a b c d = builtV H v a b c d := by
 unfold setH builtV bCells2
 repeat' split
 all_goals rfl
theorem lay_fin (x : Rh) (c : Bool) (ok : RhOk x) (H : Hp) (v : Hv) (gs qs hs os : Sl) (p a : Nat) (nd : Sl × Sl) (ps ds : List Int) (tw : Int) (W : World) (n m n0 : Nat) (hn0 : n0 ≤ W.heap.size) (hF : Off W n m fun W => Off W 0 n0 fun W => FIn W x c H v gs qs hs os) (hnd : NodeIn W nd (ps, ds)) (hp : 1 ≤ p ∧ p ≤ 4) (hm : m ≤ W.heap.size)
  (hfit : a + 1 + ps.length + ds.length ≤ (H.part p).length) (hlen : (H.part p).length ≤ 900) (hps : ∀ t ∈ ps, t < nN x) (hpl : ps.length ≤ 4) (hdl : ds.length ≤ 4) :
  Calls Tryz.prog 58 #[builtV H v (slV gs) (slV qs) (slV hs) (slV os), .agg #[.int .i64 p, .int .i64 a], .agg #[slV nd.1, slV nd.2], .int .i64 tw] W fun e w' => (∃ l h o f : Sl, e = .returned (builtV H ⟨slV l, slV h, slV o, slV f, .slice none 0 0⟩ (slV gs) (slV qs) (slV hs) (slV os)) ∧ Off w' n m fun W => Off W 0 n0 fun W => FIn W x c (setH H p (ovl (H.part p) a (packV ((ps.length + ds.length : Nat) : Int) ps.length :: (slotsV x c p a tw 0 ps ++ ds)))) ⟨slV l, slV h, slV o, slV f, .slice none 0 0⟩ gs qs hs os) ∧ Below W.heap.size W w' := by
 have F := hF.now.now
 refine (layn_any x c ok H v gs qs hs os p a nd ps ds tw W F.bin (F.part p) hnd hp hfit hlen hps hpl hdl).mono ?_
 rintro e w' ⟨⟨u, rfl, hu⟩, hb⟩
 obtain ⟨ua, uc, eu⟩ := rin_form (hu.sees enU_len)
 obtain ⟨l, h, o, f, e⟩ := setV_form F.bin.hf.sf F.r p ua (ovl (H.part p) a (packV ((ps.length + ds.length : Nat) : Int) ps.length :: (slotsV x c p a tw 0 ps ++ ds))).length uc
 rw [← eu] at e
 refine ⟨⟨l, h, o, f, by rw [e], ?_⟩, hb⟩
 rw [← e]
 refine ((hF.tr hb).and (own_off2 enU_len hu hm hn0)).imp fun W hW => (hW.1.and hW.2).imp fun W hW => hW.1.put hW.2 (ovl_len ?_)
 rw [List.length_cons, List.length_append, slotsV_len]
 omega
theorem hof_at (x : Rh) (c : Bool) {k : Nat} (hk : k < nN x) (h0 : 0 < hpt x c k) : hof x c (hpt x c k) k + 1 + (gPtrs x k).length + (gData x k).length ≤ ((hpI x c k).part (hpt x c k)).length := by
 have h1 := offs_lt (z := slN x) (q := hpt x c) hk rfl
 have h2 := hpt_le x c k
 rw [part_len x c (Nat.le_of_lt hk)]
 have h3 : slN x k = (gPtrs x k).length + (gData x k).length := rfl
 unfold hof at *
 rcases (show hpt x c k = 1 ∨ hpt x c k = 2 by omega) with h | h
 ·rw [h] at h1 ⊢
  rw [if_pos rfl]
  omega
 ·rw [h] at h1 ⊢
  rw [if_neg (by decide), if_pos rfl]
  omega
theorem oof_at (x : Rh) (c : Bool) {k : Nat} (hk : k < nN x) (h0 : 0 < opt x c k) : oof x c (opt x c k) k + 1 + (gPtrs x k).length + (gData x k).length ≤ ((hpI x c k).part (opt x c k)).length := by
 have h1 := offs_lt (z := slN x) (q := opt x c) hk rfl
 have h2 := opt_cases x c k
 rw [part_len x c (Nat.le_of_lt hk)]
 have h3 : slN x k = (gPtrs x k).length + (gData x k).length := rfl
 unfold oof at *
 rcases (show opt x c k = 3 ∨ opt x c k = 4 by omega) with h | h
 ·rw [h] at h1 ⊢
  rw [if_neg (by decide), if_neg (by decide), if_pos rfl]
  omega
 ·rw [h] at h1 ⊢
  rw [if_neg (by decide), if_neg (by decide), if_neg (by decide)]
  omega
theorem off_le (x : Rh) (c : Bool) (p : Nat) {k : Nat} (hk : k ≤ 10) : hof x c p k ≤ 90 ∧ oof x c p k ≤ 90 := by
 have h1 := offs_sum (slN x) (hpt x c) (slN_le x) [p] (by simp) k
 have h2 := offs_sum (slN x) (opt x c) (slN_le x) [p] (by simp) k
 simp only [List.map_cons, List.map_nil, List.sum_cons, List.sum_nil] at h1 h2
 unfold hof oof
 omega
theorem part_le (x : Rh) (c : Bool) {i : Nat} (hi : i ≤ nN x) (p : Nat) : ((hpI x c i).part p).length ≤ 90 := by
 have := nN_le x
 rw [part_len x c hi]
 repeat' split
 all_goals first
  | exact (off_le x c _ this).1
  | exact (off_le x c _ this).2
theorem ptrs_len (x : Rh) (k : Nat) : (gPtrs x k).length ≤ 4 ∧ (gData x k).length ≤ 4 := by
 unfold gPtrs gData
 simp only [List.length_map, List.length_take]
 omega
section
variable {x : Rh} {c : Bool} {v : Hv} {gs qs hs os : Sl} {nd : Sl × Sl} {W : World} {n m n0 k : Nat}
theorem fill_h (ok : RhOk x) (hn0 : n0 ≤ W.heap.size) (hk : k < nN x) (h0 : 0 < hpt x c k) (hF : Off W n m fun W => Off W 0 n0 fun W => FIn W x c (hpI x c k) v gs qs hs os) (hnd : NodeIn W nd (gPtrs x k, gData x k)) (hm : m ≤ W.heap.size) :
  Calls Tryz.prog 58 #[builtV (hpI x c k) v (slV gs) (slV qs) (slV hs) (slV os), .agg #[.int .i64 (hpt x c k), .int .i64 (hof x c (hpt x c k) k)], .agg #[slV nd.1, slV nd.2], .int .i64 (wr (x.slack + k))] W fun e w' => (∃ l h o f : Sl, e = .returned (builtV (hpI x c k) ⟨slV l, slV h, slV o, slV f, .slice none 0 0⟩ (slV gs) (slV qs) (slV hs) (slV os)) ∧ Off w' n m fun W => Off W 0 n0 fun W => FIn W x c (hpM x c k) ⟨slV l, slV h, slV o, slV f, .slice none 0 0⟩ gs qs hs os) ∧ Below W.heap.size W w' :=
 lay_fin x c ok (hpI x c k) v gs qs hs os _ _ nd _ _ _ W n m n0 hn0 hF hnd ⟨by omega, by have := hpt_le x c k; omega⟩ hm (hof_at x c hk h0) (by have := part_le x c (Nat.le_of_lt hk) (hpt x c k); omega) (fun t ht => (gPtrs_in x k t ht).2) (ptrs_len x k).1 (ptrs_len x k).2
theorem fill_o (ok : RhOk x) (hn0 : n0 ≤ W.heap.size) (hk : k < nN x) (h0 : 0 < opt x c k) (h1 : hpt x c k = 0) (hF : Off W n m fun W => Off W 0 n0 fun W => FIn W x c (hpI x c k) v gs qs hs os) (hnd : NodeIn W nd (gPtrs x k, gData x k)) (hm : m ≤ W.heap.size) :
  Calls Tryz.prog 58 #[builtV (hpI x c k) v (slV gs) (slV qs) (slV hs) (slV os), .agg #[.int .i64 (opt x c k), .int .i64 (oof x c (opt x c k) k)], .agg #[slV nd.1, slV nd.2], .int .i64 0] W fun e w' => (∃ l h o f : Sl, e = .returned (builtV (hpI x c k) ⟨slV l, slV h, slV o, slV f, .slice none 0 0⟩ (slV gs) (slV qs) (slV hs) (slV os)) ∧ Off w' n m fun W => Off W 0 n0 fun W => FIn W x c (hpI x c (k + 1)) ⟨slV l, slV h, slV o, slV f, .slice none 0 0⟩ gs qs hs os) ∧ Below W.heap.size W w' := by
 have e : oPc x c k = ⟨packV (slN x k) (gPtrs x k).length, slN x k, (gPtrs x k).length, false, slotsV x c (opt x c k) (oof x c (opt x c k) k) 0 0 (gPtrs x k) ++ gData x k⟩ := if_neg (by omega)
 have s := step_o (x := x) (c := c) hk rfl h0 h1
 rw [e] at s
 rw [← s]
 exact lay_fin x c ok (hpI x c k) v gs qs hs os _ _ nd _ _ _ W n m n0 hn0 hF hnd ⟨by omega, by have := opt_cases x c k; omega⟩ hm (oof_at x c hk h0) (by have := part_le x c (Nat.le_of_lt hk) (opt x c k); omega) (fun t ht => (gPtrs_in x k t ht).2) (ptrs_len x k).1 (ptrs_len x k).2
end
theorem setC_size : ∀ {L : List (Nat × Value)} {W : World} {b : Nat}, (setC W b L).heap.size = W.heap.size
 | [], _, _ => rfl
 | q :: L, _, _ => (setC_size (L := L)).trans (by simp [World.setCell])
theorem s2b_tr {W w1 : World} {b : Nat} {cs : Array Value} {p : Addr} {v : Value} (hb : Below W.heap.size W w1) (h1 : b < W.heap.size) (d1 : ∀ i, W.cell? ⟨b, i, none⟩ = cs[i]?) (h : W.cell? p = some v) : (∀ i, w1.cell? ⟨b, i, none⟩ = cs[i]?) ∧ w1.cell? p = some v := ⟨fun i => (hb.cell (p := ⟨b, i, none⟩) h1).trans (d1 i), cell_tr hb h⟩
theorem s5b_tr {W w1 : World} {b : Nat} {cs : Array Value} {p1 p2 p3 p4 : Addr} {v1 v2 v3 v4 : Value} (hb : Below W.heap.size W w1) (h1 : b < W.heap.size) (d1 : ∀ i, W.cell? ⟨b, i, none⟩ = cs[i]?) (h2 : W.cell? p1 = some v1) (h3 : W.cell? p2 = some v2) (h4 : W.cell? p3 = some v3) (h5 : W.cell? p4 = some v4) :
  (∀ i, w1.cell? ⟨b, i, none⟩ = cs[i]?) ∧ w1.cell? p1 = some v1 ∧ w1.cell? p2 = some v2 ∧ w1.cell? p3 = some v3 ∧ w1.cell? p4 = some v4 := ⟨fun i => (hb.cell (p := ⟨b, i, none⟩) h1).trans (d1 i), cell_tr hb h2, cell_tr hb h3, cell_tr hb h4, cell_tr hb h5⟩
theorem setH_h (H : Hp) (p : Nat) (z : List Int) (v : Hv) : hpV (setH H p z) v = hpV H v := by
 unfold setH hpV
 repeat' split
 all_goals rfl
theorem s6_tr {W w1 : World} (hb : Below W.heap.size W w1) {p1 p2 p3 p4 p5 p6 : Addr} {v1 v2 v3 v4 v5 v6 : Value} (h1 : W.cell? p1 = some v1) (h2 : W.cell? p2 = some v2) (h3 : W.cell? p3 = some v3) (h4 : W.cell? p4 = some v4) (h5 : W.cell? p5 = some v5) (h6 : W.cell? p6 = some v6) :
  w1.cell? p1 = some v1 ∧ w1.cell? p2 = some v2 ∧ w1.cell? p3 = some v3 ∧ w1.cell? p4 = some v4 ∧ w1.cell? p5 = some v5 ∧ w1.cell? p6 = some v6 := ⟨cell_tr hb h1, cell_tr hb h2, cell_tr hb h3, cell_tr hb h4, cell_tr hb h5, cell_tr hb h6⟩
theorem fill_any (x : Rh) (c : Bool) (X : Xv) (v : Hv) (gs qs hs os : Sl) (w : World) (n0 : Nat) (hn0 : n0 ≤ w.heap.size) (hff : Off w 0 n0 fun W => FIn W x c (standH x c) v gs qs hs os) (hx : XIn w X x) :
  Calls Tryz.prog 22 #[builtV (standH x c) v (slV gs) (slV qs) (slV hs) (slV os), .agg (xCells X x)] w fun e w' => (∃ u, e = .returned (hpV (heapP x c) u) ∧ Off w' 0 n0 fun W => HIn W (heapP x c) u) ∧ Below w.heap.size w w' := by
 have ok := hx.ok
 have hf := hff.now
 obtain ⟨ia2, ib, io, ic2, e1, i1, i2, i3, i4, i5, i6⟩ := hf.bin.hl.form
 obtain ⟨oa2, jb, jo, oc2, e2, o1, o2, o3, o4, o5, o6⟩ := hf.bin.ol.form
 have hll : (hereL x c (nN x)).length = nN x := by unfold hereL; simp
 have oll : (oldL x c (nN x)).length = nN x := by unfold oldL; simp
 rw [hll] at e1 i1 i5
 rw [oll] at e2 o1 o5
 obtain ⟨vs0, hvl0, hvs0, hnn0⟩ := hf.nodes
 obtain ⟨ga2, gb, go, gc2, e3, g1, g2, g3, g4, g5, g6⟩ := hvs0.form
 obtain ⟨qa2, qb, qo, qc2, e4, q1, q2, q3, q4, q5, q6⟩ := hf.roots.form
 have hgl : (gNodes x).length = nN x := by unfold gNodes; simp
 rw [hvl0, hgl] at e3 g1 g5
 obtain ⟨ga, gn, gc⟩ := gs
 obtain ⟨qa, qn, qc⟩ := qs
 obtain ⟨ia, inn, ic⟩ := hs
 obtain ⟨ja, jn, jc⟩ := os
 simp only [slV, Value.slice.injEq] at e1 e2 e3 e4
 obtain ⟨rfl, rfl, rfl⟩ := e1
 obtain ⟨rfl, rfl, rfl⟩ := e2
 obtain ⟨rfl, rfl, rfl⟩ := e3
 obtain ⟨rfl, hqn, rfl⟩ := e4
 have HQN := Lib.hid hqn
 clear hqn i2 i3 i4 i6 o2 o3 o4 o6 hll oll hvl0 hvs0 hnn0 g2 g3 g4 g6 hgl q2 q3 q4 q6
 have hr := hf.r
 obtain ⟨⟨la, lc, e1⟩, ⟨ha, hc, e2⟩, ⟨oa, oc, e3⟩, ⟨fa, fc, e4⟩, _⟩ := hf.bin.hf
 obtain ⟨vl, vh, vo, vf, vr⟩ := v
 dsimp only at e1 e2 e3 e4 hr
 subst e1 e2 e3 e4 hr
 obtain ⟨⟨a1, n1, c1⟩, ⟨a2, n2, c2⟩, ⟨a3, n3, c3⟩⟩ := X
 have HF0 := Lib.hid hff
 have HNUM := Lib.hid hx.num
 have hN10 := nN_le x
 have HHOF : Hid (∀ k p, k ≤ nN x → hof x c p k ≤ 90 ∧ oof x c p k ≤ 90) := Lib.hid fun k p hk => by
  have h1 := offs_sum (slN x) (hpt x c) (slN_le x) [p] (by simp) k
  have h2 := offs_sum (slN x) (opt x c) (slN_le x) [p] (by simp) k
  simp only [List.map_cons, List.map_nil, List.sum_cons, List.sum_nil] at h1 h2
  unfold hof oof
  omega
 have HI0 := Lib.hid (hpI_zero x c)
 clear hf hx hff
 unfold builtV bCells2 xCells slV
 dsimp only
 have hsb : (standH x c).base = (layL x c).base := rfl
 have hsc : (standH x c).cap = (layL x c).cap := rfl
 have hst : (standH x c).tt = (layL x c).tt := rfl
 have hsy : (standH x c).cyc = c := rfl
 have hss : (standH x c).scan = scanN x c := rfl
 rw [hsb, hsc, hst, hsy, hss]
 generalize (standH x c).low.length = ln at *
 generalize (standH x c).high.length = hn at *
 generalize (standH x c).old.length = on_ at *
 generalize (standH x c).far.length = fn at *
 have HBS : Hid (∀ k, (hpI x c k).base = (layL x c).base ∧ (hpI x c k).cap = (layL x c).cap ∧ (hpI x c k).tt = (layL x c).tt ∧ (hpI x c k).cyc = c ∧ (hpI x c k).scan = (scanN x c : Int)) := Lib.hid fun k => ⟨rfl, rfl, rfl, rfl, rfl⟩
 have HRV : Hid ((heapP x c).base = (layL x c).base ∧ (heapP x c).cap = (layL x c).cap ∧ (heapP x c).tt = (layL x c).tt ∧ (heapP x c).cyc = c ∧ (heapP x c).scan = (scanN x c : Int)) := Lib.hid ⟨rfl, rfl, rfl, rfl, rfl⟩
 have HLY : Hid (∀ k, k ≤ nN x → ∀ p, ((hpI x c k).part p).length = if p = 1 then hof x c 1 (nN x) else if p = 2 then hof x c 2 (nN x) else if p = 3 then oof x c 3 (nN x) else oof x c 4 (nN x)) := Lib.hid fun k hk p => part_len x c hk p
 generalize (layL x c).base = BS at *
 generalize (layL x c).cap = CP at *
 generalize (layL x c).tt = TT at *
 generalize hSC : (scanN x c : Int) = SC at *
 generalize hNe : nN x = N at *
 have HNE := Lib.hid hNe
 clear hSC hsb hsc hst hsy hss hNe
 go_enter Tryz.func22, Tryz.ntmps22
 go_wp2_with fail
 go_loopw [5] (fun i wr => ∃ (k : Nat) (l h o f : Sl), k ≤ N ∧ i = .int .i64 k ∧ Hid (Blk wr w.heap.size #[.int .u64 BS, .int .i64 CP, .int .i64 TT, .bool c, .int .i64 SC, slV l, slV h, slV o, slV f, .slice none 0 0, .slice ga N gc, .slice qa qn qc, .slice ia N ic, .slice ja N jc] 64) ∧ Hid (Off wr w.heap.size (w.heap.size + 3) fun W => Off W 0 n0 fun W => FIn W x c (hpI x c k) ⟨slV l, slV h, slV o, slV f, .slice none 0 0⟩ (ga, N, gc) (qa, qn, qc) (ia, N, ic) (ja, N, jc)) ∧ Hid (Blk wr (w.heap.size + 1) #[.slice a1 n1 c1, .slice a2 n2 c2, .slice a3 n3 c3, .int .u64 x.base, .int .i64 x.slack, .int .i64 x.scan, .int .i64 x.tt] 26) ∧ Hid (Blk wr (w.heap.size + 2) #[.int .u64 0, .int .i64 0, .int .i64 0, .bool false, .int .i64 0, .slice none 0 0, .slice none 0 0, .slice none 0 0, .slice none 0 0, .slice none 0 0] 32) ∧ Hid (Below w.heap.size w wr) ∧ w.heap.size + 3 ≤ wr.heap.size) (fun i _ => N - (intOf i).toNat)
 case atStart =>
  refine ⟨0, (la, ln, lc), (ha, hn, hc), (oa, on_, oc), (fa, fn, fc), Nat.zero_le _, rfl, Lib.hid (.alloc (.alloc (.new w _ _) _) _), Lib.hid ?_, Lib.hid (.alloc (.mk (by simp)) _), Lib.hid (.mk (by simp)), Lib.hid (by exact bm), by simp⟩
  rw [HI0.out]
  exact off2 HF0.out (by exact bm)
 case round =>
  obtain ⟨k, ⟨la, ln, lc⟩, ⟨ha, hn, hc⟩, ⟨ua, un, uc⟩, ⟨fa, fn, fc⟩, hk, rfl, HB, HF, HX, HR, HW, hsz⟩ := hrel
  unfold slV at HB HF
  dsimp only at HB HF
  by_cases hlt : k < N
  ·obtain rfl := i1 (by omega)
   obtain rfl := o1 (by omega)
   obtain rfl := g1 (by omega)
   have hib := i5 (by omega)
   have hjb := o5 (by omega)
   have hgb := g5 (by omega)
   have hkx : k < nN x := by rw [HNE.out]; exact hlt
   have F := HF.out.now.now
   have hc0 := F.bin.hl.at (i := k) (pl_get hkx) 0 (.int .i64 (plH x c k).1) rfl
   have hc1 := F.bin.hl.at (i := k) (pl_get hkx) 1 (.int .i64 (plH x c k).2) rfl
   have od0 := F.bin.ol.at (i := k) (pl_get hkx) 0 (.int .i64 (plO x c k).1) rfl
   have od1 := F.bin.ol.at (i := k) (pl_get hkx) 1 (.int .i64 (plO x c k).2) rfl
   rw [Nat.add_zero] at hc0 od0
   obtain ⟨vs, hvl, hvs, hnn⟩ := F.nodes
   have hvk : k < vs.length := by rw [hvl]; unfold gNodes; simp [hkx]
   obtain ⟨⟨⟨pa, pn, pc⟩, ⟨da, dn, dc⟩⟩, hae⟩ : ∃ a, vs[k] = a := ⟨_, rfl⟩
   have nd0 := hvs.at (i := k) (List.getElem?_eq_getElem hvk) 0 (.slice pa pn pc) (by rw [hae]; rfl)
   have nd1 := hvs.at (i := k) (List.getElem?_eq_getElem hvk) 1 (.slice da dn dc) (by rw [hae]; rfl)
   rw [Nat.add_zero] at nd0
   have HND := Lib.hid (hnn k ((pa, pn, pc), (da, dn, dc)) (gPtrs x k, gData x k) (by rw [List.getElem?_eq_getElem hvk, hae]) (by unfold gNodes; rw [List.getElem?_map, List.getElem?_range hkx]; rfl))
   clear hvl hvs hnn hae hvk F
   have hbb := HB.out
   have hxx := HX.out
   obtain ⟨lb, cb, fb⟩ := hbb.get
   obtain ⟨lx, cx, fx⟩ := hxx.get
   have hph : (plH x c k).1 = hpt x c k := rfl
   have hpo : (plO x c k).1 = opt x c k := rfl
   have HP2 : Hid (0 < hpt x c k → (plH x c k).2 = hof x c (hpt x c k) k) := Lib.hid fun h => by unfold plH; dsimp only; rw [if_neg (by omega)]
   have OP2 : Hid (0 < opt x c k → (plO x c k).2 = oof x c (opt x c k) k) := Lib.hid fun h => by unfold plO; dsimp only; rw [if_neg (by omega)]
   rw [hph] at hc0
   rw [hpo] at od0
   generalize (plH x c k).2 = H2 at *
   generalize (plO x c k).2 = O2 at *
   have HHP := Lib.hid (parts_of x c k)
   obtain ⟨HP, hHP⟩ : ∃ m, hpt x c k = m := ⟨_, rfl⟩
   obtain ⟨OP, hOP⟩ : ∃ m, opt x c k = m := ⟨_, rfl⟩
   rw [hHP] at hc0
   rw [hOP] at od0
   have HHE := Lib.hid hHP
   have HOE := Lib.hid hOP
   have hcas : (0 < HP ∧ HP ≤ 2) ∨ (HP = 0 ∧ 0 < OP ∧ OP ≤ 4) := by have h1 := parts_of x c k; rw [hHP, hOP] at h1; omega
   clear hHP hOP hph hpo
   go_upto_region 5 with (fail)
   have b0 : Below wr.heap.size wr (wr.alloc (.cells #[.slice pa pn pc, .slice da dn dc] 111)) := by exact bm
   have KN := Blk.new wr #[.slice pa pn pc, .slice da dn dc] 111
   have HW0 : Hid (Below w.heap.size w (wr.alloc (.cells #[.slice pa pn pc, .slice da dn dc] 111))) := Lib.hid (kp_tr HW.out b0)
   replace HB := Lib.hid (HB.out.tr b0)
   replace HX := Lib.hid (HX.out.tr b0)
   replace HR := Lib.hid (HR.out.tr b0)
   replace HF := Lib.hid (HF.out.tr b0)
   replace HND := Lib.hid (HND.out.tr b0)
   replace hc0 := cell_tr b0 hc0
   replace hc1 := cell_tr b0 hc1
   replace od0 := cell_tr b0 od0
   replace od1 := cell_tr b0 od1
   have hs0 : w.heap.size + 3 ≤ (wr.alloc (.cells #[.slice pa pn pc, .slice da dn dc] 111)).heap.size := Nat.le_trans hsz b0.size
   have hNB : wr.heap.size ≠ w.heap.size := by omega
   clear hbb hxx lb cb fb lx cx fx nd0 nd1 b0 HW
   generalize wr.alloc (.cells #[.slice pa pn pc, .slice da dn dc] 111) = W0 at *
   generalize wr.heap.size = NB at *
   have hbb := HB.out
   have hxx := HX.out
   obtain ⟨lb, cb, fb⟩ := hbb.get
   obtain ⟨lx, cx, fx⟩ := hxx.get
   obtain ⟨ln_, cn, fn_⟩ := KN.get
   rcases hcas with ⟨hp0, hp2⟩ | ⟨rfl, op0, op4⟩
   ·have hgt : (HP : Int) > 0 := by omega
    obtain ⟨TW, hTW⟩ : ∃ m, IntKind.i64.wrap (x.slack + (k : Int)) = m := ⟨_, rfl⟩
    have hTW2 : rh.wr (x.slack + k) = TW := hTW
    have hh2 : H2 = hof x c (hpt x c k) k := HP2.out (by rw [HHE.out]; exact hp0)
    have HL1 : Hid (∀ W, Below W0.heap.size W0 W → Calls Tryz.prog 58 #[.agg #[Value.int .u64 BS, .int .i64 CP, .int .i64 TT, .bool c, .int .i64 SC, .slice la ln lc, .slice ha hn hc, .slice ua un uc, .slice fa fn fc, .slice none 0 0, .slice (some ⟨gb, go, none⟩) N gc, .slice qa qn qc, .slice (some ⟨ib, io, none⟩) N ic, .slice (some ⟨jb, jo, none⟩) N jc], .agg #[.int .i64 HP, .int .i64 H2], .agg #[.slice pa pn pc, .slice da dn dc], .int .i64 TW] W fun e w' => (∃ l h o f : Sl, e = .returned (.agg #[.int .u64 BS, .int .i64 CP, .int .i64 TT, .bool c, .int .i64 SC, .slice l.1 l.2.1 l.2.2, .slice h.1 h.2.1 h.2.2, .slice o.1 o.2.1 o.2.2, .slice f.1 f.2.1 f.2.2, .slice none 0 0, .slice (some ⟨gb, go, none⟩) N gc, .slice qa qn qc, .slice (some ⟨ib, io, none⟩) N ic, .slice (some ⟨jb, jo, none⟩) N jc]) ∧ Off w' w.heap.size (w.heap.size + 3) fun W => Off W 0 n0 fun W => FIn W x c (hpM x c k) ⟨.slice l.1 l.2.1 l.2.2, .slice h.1 h.2.1 h.2.2, .slice o.1 o.2.1 o.2.2, .slice f.1 f.2.1 f.2.2, .slice none 0 0⟩ (some ⟨gb, go, none⟩, N, gc) (qa, qn, qc) (some ⟨ib, io, none⟩, N, ic) (some ⟨jb, jo, none⟩, N, jc)) ∧ Below W.heap.size W w') := Lib.hid fun W hW => by
     have hsw := hW.size
     have h1 := fill_h (nd := ((pa, pn, pc), (da, dn, dc))) ok (by omega) hkx (by rw [HHE.out]; exact hp0) (HF.out.tr hW) (HND.out.tr hW) (Nat.le_trans hs0 hsw)
     rw [← hh2, HHE.out, hTW2] at h1
     unfold builtV bCells2 slV at h1
     dsimp only at h1
     rw [(HBS.out k).1, (HBS.out k).2.1, (HBS.out k).2.2.1, (HBS.out k).2.2.2.1, (HBS.out k).2.2.2.2] at h1
     exact h1
    clear hh2 hTW2
    go_upto_region 6 with (fail)
    refine wp_region_held_drew (S := (fun w' => w'.cell? ⟨w.heap.size, 12, none⟩ = some (.slice (some ⟨ib, io, none⟩) N ic) ∧ w'.cell? ⟨ib, io + k * 2, none⟩ = some (.int .i64 HP) ∧ w'.cell? ⟨ib, io + k * 2 + 1, none⟩ = some (.int .i64 H2) ∧ w'.cell? ⟨NB, 0, none⟩ = some (.slice pa pn pc) ∧ w'.cell? ⟨NB, 1, none⟩ = some (.slice da dn dc) ∧ w'.cell? ⟨w.heap.size + 1, 4, none⟩ = some (.int .i64 x.slack))) (by kernel_rfl) ?_ (fun hHeld => ?_)
    ·(try dsimp only); refine s6_tr (W := W0) ?_ (cb 12) hc0 hc1 (cn 0) (cn 1) (cx 4); exact bm
    refine tk 1 ?_
    refine tk 2 ?_
    refine tk 3 ?_
    refine tk 4 ?_
    refine tk 5 ?_
    refine tk 6 ?_
    refine tk 7 ?_
    refine tk 8 ?_
    refine tk 9 ?_
    refine tk 10 ?_
    have hkeep : Hid (∀ W1 : World, Below W0.heap.size W0 W1 → W1.cell? ⟨w.heap.size, 12, none⟩ = some (.slice (some ⟨ib, io, none⟩) N ic) ∧ W1.cell? ⟨ib, io + k * 2, none⟩ = some (.int .i64 HP) ∧ W1.cell? ⟨ib, io + k * 2 + 1, none⟩ = some (.int .i64 H2) ∧ W1.cell? ⟨NB, 0, none⟩ = some (.slice pa pn pc) ∧ W1.cell? ⟨NB, 1, none⟩ = some (.slice da dn dc) ∧ W1.cell? ⟨w.heap.size + 1, 4, none⟩ = some (.int .i64 x.slack)) := Lib.hid fun W1 h => s6_tr (W := W0) h (cb 12) hc0 hc1 (cn 0) (cn 1) (cx 4)
    refine co 0 fun K hK => ?_
    go_simp
    skip
    refine hK.out _ _ ?_ (fun hHeld => ?_)
    ·(try dsimp only); refine hkeep.out _ ?_; exact bm
    clear hK K
    refine nx ?_
    refine co 11 fun K hK => ?_
    go_simp
    go_at_call 58; refine (HL1.out _ (by exact bm)).mono ?_; rintro e w5 ⟨⟨⟨l1, l2, l3⟩, ⟨h1, h2, h3⟩, ⟨u1, u2, u3⟩, ⟨f1, f2, f3⟩, rfl, hf5⟩, k5⟩; go_wp2_with fail
    refine hK.out _ _ ?_ (fun hHeld => ?_)
    ·(try dsimp only); refine hkeep.out _ ?_; exact bm
    clear hK K
    refine nx ?_
    have b5 : Below W0.heap.size W0 w5 := by exact bm
    have HB5 := HB.out.tr b5
    obtain ⟨lb5, cb5, fb5⟩ := HB5.get
    have hnx : w.heap.size + 1 ≠ w.heap.size := by omega
    have hnr : w.heap.size + 2 ≠ w.heap.size := by omega
    obtain ⟨LV, hLV⟩ : ∃ L : List (Nat × Value), L = [(0, Value.int .u64 BS), (1, .int .i64 CP), (2, .int .i64 TT), (3, .bool c), (4, .int .i64 SC), (5, .slice l1 l2 l3), (6, .slice h1 h2 h3), (7, .slice u1 u2 u3), (8, .slice f1 f2 f3), (9, .slice none 0 0), (10, .slice (some ⟨gb, go, none⟩) N gc), (11, .slice qa qn qc), (12, .slice (some ⟨ib, io, none⟩) N ic), (13, .slice (some ⟨jb, jo, none⟩) N jc)] := ⟨_, rfl⟩
    have hW : ((((((((((((((w5.setCell ⟨w.heap.size, 0, none⟩ (.int .u64 BS)).setCell ⟨w.heap.size, 1, none⟩ (.int .i64 CP)).setCell ⟨w.heap.size, 2, none⟩ (.int .i64 TT)).setCell ⟨w.heap.size, 3, none⟩ (.bool c)).setCell ⟨w.heap.size, 4, none⟩ (.int .i64 SC)).setCell ⟨w.heap.size, 5, none⟩ (.slice l1 l2 l3)).setCell ⟨w.heap.size, 6, none⟩ (.slice h1 h2 h3)).setCell ⟨w.heap.size, 7, none⟩ (.slice u1 u2 u3)).setCell ⟨w.heap.size, 8, none⟩ (.slice f1 f2 f3)).setCell ⟨w.heap.size, 9, none⟩ (.slice none 0 0)).setCell ⟨w.heap.size, 10, none⟩ (.slice (some ⟨gb, go, none⟩) N gc)).setCell ⟨w.heap.size, 11, none⟩ (.slice qa qn qc)).setCell ⟨w.heap.size, 12, none⟩ (.slice (some ⟨ib, io, none⟩) N ic)).setCell ⟨w.heap.size, 13, none⟩ (.slice (some ⟨jb, jo, none⟩) N jc)) = setC w5 w.heap.size LV := by rw [hLV]; simp only [setC]
    have HWE := Lib.hid hW
    have HLV := Lib.hid hLV
    clear hW
    have HB6 := Blk.setC (L := LV) HB5
    have h12 : (setC w5 w.heap.size LV).cell? ⟨w.heap.size, 12, none⟩ = some (.slice (some ⟨ib, io, none⟩) N ic) := by
     rw [HB6.get.2.1 12, hLV]
     simp only [setA, List.setIfInBounds_toArray, List.set_cons_zero, List.set_cons_succ]
     rfl
    clear hLV
    have H12 := Lib.hid h12
    have HB6 := Lib.hid HB6
    clear h12
    have HC0 := Lib.hid hc0
    have HC1 := Lib.hid hc1
    have HD0 := Lib.hid od0
    have HD1 := Lib.hid od1
    have B5 := Lib.hid b5
    clear hc0 hc1 od0 od1 hxx lx cx fx ln_ cn fn_ hkeep lb cb fb hbb b5
    refine co 12 fun K hK => ?_
    go_simp
    skip
    refine hK.out _ _ ?_ (fun hHeld => ?_)
    ·(try dsimp only); rw [HWE.out]; exact ⟨H12.out, cell_setC hHeld.2.1 (Nat.ne_of_lt hib), cell_setC hHeld.2.2.1 (Nat.ne_of_lt hib), cell_setC hHeld.2.2.2.1 hNB, cell_setC hHeld.2.2.2.2.1 hNB, cell_setC hHeld.2.2.2.2.2 hnx⟩
    clear hK K
    refine nx ?_
    refine wpAnyH_done (by kernel_rfl) ?_ _
    have b5 := B5.out
    have hc0 := HC0.out
    have hc1 := HC1.out
    have od0 := HD0.out
    have od1 := HD1.out
    have HX6 := Blk.offC (L := LV) (b := w.heap.size) (HX.out.tr b5) hnx
    have HR6 := Blk.offC (L := LV) (b := w.heap.size) (HR.out.tr b5) hnr
    have HF6 := Off.setC (L := LV) hf5 (Nat.le_refl _) (show w.heap.size < w.heap.size + 3 by omega)
    have HW6 := low_setC (L := LV) (kp_tr HW0.out b5) (Nat.le_refl _)
    have hs6 : w.heap.size + 3 ≤ (setC w5 w.heap.size LV).heap.size := by rw [setC_size]; exact Nat.le_trans hs0 b5.size
    have hc06 := cell_setC (L := LV) (cell_tr b5 hc0) (Nat.ne_of_lt hib)
    have hc16 := cell_setC (L := LV) (cell_tr b5 hc1) (Nat.ne_of_lt hib)
    have od06 := cell_setC (L := LV) (cell_tr b5 od0) (Nat.ne_of_lt hjb)
    have od16 := cell_setC (L := LV) (cell_tr b5 od1) (Nat.ne_of_lt hjb)
    replace HB6 := HB6.out
    rw [← HWE.out] at HB6 HX6 HR6 HF6 HW6 hs6 hc06 hc16 od06 od16
    clear HWE H12 HB5 lb5 cb5 fb5 b5 hf5 k5 hHeld KN HB HX HR HF HND HW0 hc0 hc1 od0 od1 hs0 hsz HL1 hTW HC0 HC1 HD0 HD1 B5
    generalize ((((((((((((((w5.setCell ⟨w.heap.size, 0, none⟩ (.int .u64 BS)).setCell ⟨w.heap.size, 1, none⟩ (.int .i64 CP)).setCell ⟨w.heap.size, 2, none⟩ (.int .i64 TT)).setCell ⟨w.heap.size, 3, none⟩ (.bool c)).setCell ⟨w.heap.size, 4, none⟩ (.int .i64 SC)).setCell ⟨w.heap.size, 5, none⟩ (.slice l1 l2 l3)).setCell ⟨w.heap.size, 6, none⟩ (.slice h1 h2 h3)).setCell ⟨w.heap.size, 7, none⟩ (.slice u1 u2 u3)).setCell ⟨w.heap.size, 8, none⟩ (.slice f1 f2 f3)).setCell ⟨w.heap.size, 9, none⟩ (.slice none 0 0)).setCell ⟨w.heap.size, 10, none⟩ (.slice (some ⟨gb, go, none⟩) N gc)).setCell ⟨w.heap.size, 11, none⟩ (.slice qa qn qc)).setCell ⟨w.heap.size, 12, none⟩ (.slice (some ⟨ib, io, none⟩) N ic)).setCell ⟨w.heap.size, 13, none⟩ (.slice (some ⟨jb, jo, none⟩) N jc)) = W1 at *
    rw [HLV.out] at HB6
    simp only [setA, List.setIfInBounds_toArray, List.set_cons_zero, List.set_cons_succ] at HB6
    clear HLV
    have HBN := Lib.hid HB6
    have HXN := Lib.hid HX6
    have HRN := Lib.hid HR6
    have HFN := Lib.hid HF6
    have HWN := Lib.hid HW6
    obtain ⟨lb, cb, fb⟩ := HB6.get
    clear HX6 HR6 HF6 HW6
    rcases Nat.eq_zero_or_pos OP with rfl | op0
    ·clear HB6
     have hst : hpM x c k = hpI x c (k + 1) := step_h hkx rfl (by rw [HHE.out]; exact hp0) HOE.out
     rw [hst] at HFN
     go_wp2_with fail
     exact ⟨⟨k + 1, (l1, l2, l3), (h1, h2, h3), (u1, u2, u3), (f1, f2, f3), by omega, by go_num, HBN, HFN, HXN, HRN, HWN, hs6⟩, by simp [intOf]; omega⟩
    ·have op4' : OP ≤ 4 := by have h1 := HHP.out; have h2 := HHE.out; have h3 := HOE.out; rw [h2, h3] at h1; omega
     have hgo : (OP : Int) > 0 := by omega
     have hne0 : ((HP : Int) == 0) = false := by rw [beq_eq_false_iff_ne]; omega
     have hk1 := HFN.out.now.now
     have hop3 : 3 ≤ OP := by have h1 := HHP.out; have h2 := HHE.out; have h3 := HOE.out; rw [h2, h3] at h1; omega
     have hsf1 := hk1.bin.hf.sf
     have hrow := hk1.part OP
     rw [hpM_part (by rw [HHE.out]; exact hp0) hop3] at hrow
     have ho2 : O2 = oof x c (opt x c k) k := OP2.out (by rw [HOE.out]; exact op0)
     have hfit := oof_at x c hkx (by rw [HOE.out]; exact op0)
     have hple := part_le x c (Nat.le_of_lt hkx) OP
     rw [← ho2, HOE.out] at hfit
     have HSM : Hid (setH (hpM x c k) OP (((hpI x c k).part OP).set O2 (hrf x c k)) = hpI x c (k + 1)) := Lib.hid (by
      have := step_m (x := x) (c := c) hkx (by rw [HHE.out]; exact hp0) rfl (by rw [HOE.out]; exact hop3)
      rw [HOE.out] at this ho2
      rw [ho2]
      exact this)
     have HRF : Hid (∀ W, Calls Tryz.prog 59 #[.agg #[Value.int .u64 BS, .int .i64 CP, .int .i64 TT, .bool c, .int .i64 SC, .slice l1 l2 l3, .slice h1 h2 h3, .slice u1 u2 u3, .slice f1 f2 f3, .slice none 0 0, .slice (some ⟨gb, go, none⟩) N gc, .slice qa qn qc, .slice (some ⟨ib, io, none⟩) N ic, .slice (some ⟨jb, jo, none⟩) N jc], .agg #[.int .i64 HP, .int .i64 H2]] W fun e w' => e = .returned (.int .u64 (hrf x c k)) ∧ Below W.heap.size W w') := Lib.hid fun W => by
      have h1 := ref_h hk1.bin ok hkx W
      have h2 : builtV (hpM x c k) = builtV (hpI x c k) := by funext v a b c d; exact setH_b _ _ _ _ _ _ _ _
      have h3 : (plH x c k).1 = HP := HHE.out
      have h4 : (plH x c k).2 = H2 := by unfold plH; dsimp only; rw [if_neg (by rw [HHE.out]; omega)]; exact (HP2.out (by rw [HHE.out]; exact hp0)).symm
      rw [h2, h3, h4] at h1
      unfold builtV bCells2 slV at h1
      dsimp only at h1
      rw [(HBS.out k).1, (HBS.out k).2.1, (HBS.out k).2.2.1, (HBS.out k).2.2.2.1, (HBS.out k).2.2.2.2] at h1
      exact h1
     obtain ⟨ra, rc, er⟩ := rin_form hrow
     have HPA : Hid (∀ W, Calls Tryz.prog 24 #[.agg #[Value.int .u64 BS, .int .i64 CP, .int .i64 TT, .bool c, .int .i64 SC, .slice l1 l2 l3, .slice h1 h2 h3, .slice u1 u2 u3, .slice f1 f2 f3, .slice none 0 0], .int .i64 OP] W fun e w' => e = .returned (.slice ra ((hpI x c k).part OP).length rc) ∧ Below W.heap.size W w') := Lib.hid fun W => by
      have h1 := part10_any (hpI x c k) _ OP ⟨by omega, op4'⟩ W hsf1
      rw [er] at h1
      unfold hpV at h1
      rw [(HBS.out k).1, (HBS.out k).2.1, (HBS.out k).2.2.1, (HBS.out k).2.2.2.1, (HBS.out k).2.2.2.2] at h1
      exact h1
     have HWI : Hid (∀ W ua un uc, Calls Tryz.prog 25 #[.agg #[Value.int .u64 BS, .int .i64 CP, .int .i64 TT, .bool c, .int .i64 SC, .slice l1 l2 l3, .slice h1 h2 h3, .slice u1 u2 u3, .slice f1 f2 f3, .slice none 0 0], .int .i64 OP, .slice ua un uc] W fun e w' => (∃ l h o f : Sl, e = .returned (.agg #[.int .u64 BS, .int .i64 CP, .int .i64 TT, .bool c, .int .i64 SC, .slice l.1 l.2.1 l.2.2, .slice h.1 h.2.1 h.2.2, .slice o.1 o.2.1 o.2.2, .slice f.1 f.2.1 f.2.2, .slice none 0 0]) ∧ setV ⟨.slice l1 l2 l3, .slice h1 h2 h3, .slice u1 u2 u3, .slice f1 f2 f3, .slice none 0 0⟩ OP (.slice ua un uc) = ⟨.slice l.1 l.2.1 l.2.2, .slice h.1 h.2.1 h.2.2, .slice o.1 o.2.1 o.2.2, .slice f.1 f.2.1 f.2.2, .slice none 0 0⟩) ∧ Below W.heap.size W w') := Lib.hid fun W ua un uc => by
      have h1 := with10_any (hpI x c k) _ OP ⟨by omega, op4'⟩ ua un uc W hsf1
      unfold hpV at h1
      rw [(HBS.out k).1, (HBS.out k).2.1, (HBS.out k).2.2.1, (HBS.out k).2.2.2.1, (HBS.out k).2.2.2.2] at h1
      refine h1.mono ?_
      rintro e w' ⟨rfl, hb⟩
      obtain ⟨l, h', o, f, e⟩ := setV_form hsf1 rfl OP ua un uc
      refine ⟨⟨l, h', o, f, ?_, e⟩, hb⟩
      rw [e]
      rfl
     rw [er] at hrow
     have HPM : Hid ((hpM x c k).part OP = (hpI x c k).part OP) := Lib.hid (hpM_part (by rw [HHE.out]; exact hp0) hop3)
     generalize (hpI x c k).part OP = P at *
     obtain ⟨n, hn⟩ : ∃ n, P.length = n := ⟨_, rfl⟩
     rw [hn] at hfit hple hrow HPA
     have HN := Lib.hid hn
     generalize hrf x c k = RV at *
     have hOn : O2 < n := by omega
     clear hk1 hsf1 er hn ho2 hfit
     go_upto_region 10 with (fail)
     refine wp_region_held_drew (S := (fun w' => (∀ i, w'.cell? ⟨w.heap.size, i, none⟩ = #[Value.int .u64 BS, .int .i64 CP, .int .i64 TT, .bool c, .int .i64 SC, .slice l1 l2 l3, .slice h1 h2 h3, .slice u1 u2 u3, .slice f1 f2 f3, .slice none 0 0, .slice (some ⟨gb, go, none⟩) N gc, .slice qa qn qc, .slice (some ⟨ib, io, none⟩) N ic, .slice (some ⟨jb, jo, none⟩) N jc][i]?) ∧ w'.cell? ⟨jb, jo + k * 2, none⟩ = some (.int .i64 OP))) (by kernel_rfl) ?_ (fun hHeld => ?_)
     ·(try dsimp only); refine s2b_tr (W := W1) ?_ lb cb od06; exact bm
     refine tk 0 ?_
     refine tk 1 ?_
     refine tk 2 ?_
     refine tk 3 ?_
     refine tk 4 ?_
     refine tk 5 ?_
     refine tk 6 ?_
     refine tk 7 ?_
     refine co 8 fun K hK => ?_
     go_simp
     go_at_call 24; refine (HPA.out _).mono ?_; rintro e w2 ⟨rfl, k2⟩; go_wp2_with fail
     refine hK.out _ _ ?_ (fun hHeld => ?_)
     ·(try dsimp only); refine s2b_tr (W := W1) ?_ lb cb od06; exact bm
     clear hK K
     refine nx ?_
     refine wpAnyH_ready (rs := [9]) (by kernel_rfl) (by simp) ?_
     refine AllReadyH.cons rfl (fun K hK => ?_) AllReadyH.nil
     refine step_u rfl (.const (.slice none 0 0)) (.tmp 92) rfl W1.heap.size (.slice none 0 0) (.slice ra n rc) [] P rfl rfl (OwnR.nil _ _) (hrow.tr (by exact bm)) ?_ ?_ ?_
     ·have := HN.out; simp; omega
     ·have := k2.size; simpa using this
     intro v3 w3 o3 hg3 hat3
     have b3 : Below W1.heap.size W1 w3 := gr_below hg3 (by exact bm) (Nat.le_refl _) (fun k hk => by cases hk)
     refine hK.out _ _ ?_ (fun hHeld => ?_)
     ·(try dsimp only); refine s2b_tr (W := W1) b3 lb cb od06
     clear hK K
     try simp only [List.getElem_toArray, List.getElem_cons_succ, List.getElem_cons_zero, Act.put, List.setIfInBounds_toArray, List.set_cons_zero, List.set_cons_succ]
     refine tk 10 ?_
     refine wpAnyH_done (by kernel_rfl) ?_ _
     have o3' : OwnR 24 1 enU w3 W1.heap.size v3 P := o3
     clear o3
     obtain ⟨g, cap, rfl, hgB, hgl, hgc, hgf⟩ := own_blk o3' (by rw [HN.out]; omega)
     rw [HN.out] at o3' hgc ⊢
     obtain ⟨y3, hy3⟩ := own_cell o3' (k := O2) (by rw [HN.out]; exact hOn)
     have hbb3 := (HBN.out).tr b3
     obtain ⟨lb3, cb3, fb3⟩ := hbb3.get
     have h3c0 := cell_tr b3 hc06
     have h3c1 := cell_tr b3 hc16
     have h3d0 := cell_tr b3 od06
     have h3d1 := cell_tr b3 od16
     clear hg3 hat3 k2 hHeld HPA hrow
     go_upto_region 11 with (fail)
     go_region_held3 (fun w' => (∀ i, w'.cell? ⟨w.heap.size, i, none⟩ = #[Value.int .u64 BS, .int .i64 CP, .int .i64 TT, .bool c, .int .i64 SC, .slice l1 l2 l3, .slice h1 h2 h3, .slice u1 u2 u3, .slice f1 f2 f3, .slice none 0 0, .slice (some ⟨gb, go, none⟩) N gc, .slice qa qn qc, .slice (some ⟨ib, io, none⟩) N ic, .slice (some ⟨jb, jo, none⟩) N jc][i]?) ∧ w'.cell? ⟨ib, io + k * 2, none⟩ = some (.int .i64 HP) ∧ w'.cell? ⟨ib, io + k * 2 + 1, none⟩ = some (.int .i64 H2) ∧ w'.cell? ⟨jb, jo + k * 2, none⟩ = some (.int .i64 OP) ∧ w'.cell? ⟨jb, jo + k * 2 + 1, none⟩ = some (.int .i64 O2))
      (first | (refine s5b_tr (W := W1) ?_ lb cb hc06 hc16 od06 od16; exact bm))
      (first | (go_at_call 59; refine (HRF.out _).mono ?_; rintro e w5 ⟨rfl, k5⟩; have kk : Below w3.heap.size w3 w5 := (by exact bm); have ho5 := o3'.tr kk; have hof5 := own_frozen ho5; have hyk5 := cell_tr kk hy3; have hg5 := Nat.lt_of_lt_of_le hgl kk.size))
     have ho6 := own_set (k := O2) ho5 RV
     have b6 : Below W1.heap.size W1 (w5.setCell ⟨g, O2, none⟩ (.int .u64 RV)) := by exact bm
     have hbb6 := HBN.out.tr b6
     have h6d0 := cell_tr b6 od06
     have h613 : (w5.setCell ⟨g, O2, none⟩ (.int .u64 RV)).cell? ⟨w.heap.size, 13, none⟩ = some (.slice (some ⟨jb, jo, none⟩) N jc) := hbb6.get.2.1 13
     have hs6' : W1.heap.size ≤ (w5.setCell ⟨g, O2, none⟩ (.int .u64 RV)).heap.size := b6.size
     clear ho5 hof5 hyk5 hg5 kk k5 lb3 cb3 fb3 h3c0 h3c1 h3d0 h3d1 hbb3 o3' hgl hgf hy3 b3 HRF
     generalize w5.setCell ⟨g, O2, none⟩ (.int .u64 RV) = W6 at *
     have hlb6 : w.heap.size < W6.heap.size := by omega
     obtain ⟨lb6, cb6, fb6⟩ := hbb6.get
     have HKE : Hid (∀ W' : World, Below W6.heap.size W6 W' → W'.cell? ⟨w.heap.size, 13, none⟩ = some (.slice (some ⟨jb, jo, none⟩) N jc) ∧ W'.cell? ⟨jb, jo + k * 2, none⟩ = some (.int .i64 OP)) := Lib.hid fun W' h => ⟨cell_tr h h613, cell_tr h h6d0⟩
     clear lb cb fb HB6
     go_upto_region 12 with (fail)
     refine wp_region_held_drew (S := (fun w' => w'.cell? ⟨w.heap.size, 13, none⟩ = some (.slice (some ⟨jb, jo, none⟩) N jc) ∧ w'.cell? ⟨jb, jo + k * 2, none⟩ = some (.int .i64 OP))) (by kernel_rfl) ?_ (fun hHeld => ?_)
     ·(try dsimp only); refine HKE.out _ ?_; exact bm
     refine tk 0 ?_
     refine tk 2 ?_
     refine tk 3 ?_
     refine tk 4 ?_
     refine tk 5 ?_
     refine tk 6 ?_
     refine tk 7 ?_
     refine tk 8 ?_
     refine co 1 fun K hK => ?_
     go_simp
     skip
     refine hK.out _ _ ?_ (fun hHeld => ?_)
     ·(try dsimp only); refine HKE.out _ ?_; exact bm
     clear hK K
     refine nx ?_
     refine co 9 fun K hK => ?_
     go_simp
     go_at_call 25; refine (HWI.out _ _ _ _).mono ?_; rintro e w7 ⟨⟨⟨l4, l5, l6⟩, ⟨h4, h5, h6⟩, ⟨u4, u5, u6⟩, ⟨f4, f5, f6⟩, rfl, hsv⟩, k7⟩; have HSV := Lib.hid hsv; clear hsv; go_wp2_with fail
     refine hK.out _ _ ?_ (fun hHeld => ?_)
     ·(try dsimp only); refine HKE.out _ ?_; exact bm
     clear hK K
     refine nx ?_
     refine tk 10 ?_
     have b7 : Below W6.heap.size W6 w7 := by exact bm
     have b17 := kp_tr b6 b7
     have hbb7 := HBN.out.tr b17
     obtain ⟨lb7, cb7, fb7⟩ := hbb7.get
     obtain ⟨LV2, hLV⟩ : ∃ L : List (Nat × Value), L = [(0, Value.int .u64 BS), (1, .int .i64 CP), (2, .int .i64 TT), (3, .bool c), (4, .int .i64 SC), (5, .slice l4 l5 l6), (6, .slice h4 h5 h6), (7, .slice u4 u5 u6), (8, .slice f4 f5 f6), (9, .slice none 0 0)] := ⟨_, rfl⟩
     have hW : ((((((((((w7.setCell ⟨w.heap.size, 0, none⟩ (.int .u64 BS)).setCell ⟨w.heap.size, 1, none⟩ (.int .i64 CP)).setCell ⟨w.heap.size, 2, none⟩ (.int .i64 TT)).setCell ⟨w.heap.size, 3, none⟩ (.bool c)).setCell ⟨w.heap.size, 4, none⟩ (.int .i64 SC)).setCell ⟨w.heap.size, 5, none⟩ (.slice l4 l5 l6)).setCell ⟨w.heap.size, 6, none⟩ (.slice h4 h5 h6)).setCell ⟨w.heap.size, 7, none⟩ (.slice u4 u5 u6)).setCell ⟨w.heap.size, 8, none⟩ (.slice f4 f5 f6)).setCell ⟨w.heap.size, 9, none⟩ (.slice none 0 0)) = setC w7 w.heap.size LV2 := by rw [hLV]; simp only [setC]
     have HWE := Lib.hid hW
     have HLV := Lib.hid hLV
     clear hW
     have hb8 := Blk.setC (L := LV2) hbb7
     have h13 : (setC w7 w.heap.size LV2).cell? ⟨w.heap.size, 13, none⟩ = some (.slice (some ⟨jb, jo, none⟩) N jc) := by
      rw [hb8.get.2.1 13, hLV]
      simp only [setA, List.setIfInBounds_toArray, List.set_cons_zero, List.set_cons_succ]
      rfl
     clear hLV
     have H13 := Lib.hid h13
     have HB8 := Lib.hid hb8
     have B17 := Lib.hid b17
     have B7 := Lib.hid b7
     clear h13 hb8 b17 b7 hbb6 lb6 cb6 fb6 h613 h6d0 hbb7
     refine co 11 fun K hK => ?_
     go_simp
     skip
     refine hK.out _ _ ?_ (fun hHeld => ?_)
     ·(try dsimp only); rw [HWE.out]; exact ⟨H13.out, cell_setC hHeld.2 (Nat.ne_of_lt hjb)⟩
     clear hK K
     refine nx ?_
     refine wpAnyH_done (by kernel_rfl) ?_ _
     have b17 := B17.out
     have HX8 := Blk.offC (L := LV2) (b := w.heap.size) (HXN.out.tr b17) hnx
     have HR8 := Blk.offC (L := LV2) (b := w.heap.size) (HRN.out.tr b17) hnr
     have HF8 : Off w7 w.heap.size (w.heap.size + 3) fun W => Off W 0 n0 fun W => FIn W x c (setH (hpM x c k) OP (P.set O2 RV)) (setV ⟨.slice l1 l2 l3, .slice h1 h2 h3, .slice u1 u2 u3, .slice f1 f2 f3, .slice none 0 0⟩ OP (.slice (some ⟨g, 0, none⟩) n cap)) (some ⟨gb, go, none⟩, N, gc) (qa, qn, qc) (some ⟨ib, io, none⟩, N, ic) (some ⟨jb, jo, none⟩, N, jc) :=
      ((HFN.out.tr b17).and (own_off2 enU_len (ho6.tr B7.out) hs6 (by omega))).imp fun W hW => (hW.1.and hW.2).imp fun W hW => FIn.put hW.1 hW.2 (by rw [HPM.out, List.length_set])
     rw [HSM.out, HSV.out] at HF8
     replace HF8 := Off.setC (L := LV2) HF8 (Nat.le_refl _) (show w.heap.size < w.heap.size + 3 by omega)
     have HW8 := low_setC (L := LV2) (kp_tr HWN.out b17) (Nat.le_refl _)
     have hs8 : w.heap.size + 3 ≤ (setC w7 w.heap.size LV2).heap.size := by rw [setC_size]; exact Nat.le_trans hs6 b17.size
     have HB8 := HB8.out
     rw [← HWE.out] at HB8 HX8 HR8 HF8 HW8 hs8
     clear HWE H13 B17 B7 b17 lb7 cb7 fb7 HKE hHeld HBN HXN HRN HFN HWN hs6 hs6' hlb6 b6 ho6 k7
     generalize ((((((((((w7.setCell ⟨w.heap.size, 0, none⟩ (.int .u64 BS)).setCell ⟨w.heap.size, 1, none⟩ (.int .i64 CP)).setCell ⟨w.heap.size, 2, none⟩ (.int .i64 TT)).setCell ⟨w.heap.size, 3, none⟩ (.bool c)).setCell ⟨w.heap.size, 4, none⟩ (.int .i64 SC)).setCell ⟨w.heap.size, 5, none⟩ (.slice l4 l5 l6)).setCell ⟨w.heap.size, 6, none⟩ (.slice h4 h5 h6)).setCell ⟨w.heap.size, 7, none⟩ (.slice u4 u5 u6)).setCell ⟨w.heap.size, 8, none⟩ (.slice f4 f5 f6)).setCell ⟨w.heap.size, 9, none⟩ (.slice none 0 0)) = W8 at *
     rw [HLV.out] at HB8
     simp only [setA, List.setIfInBounds_toArray, List.set_cons_zero, List.set_cons_succ] at HB8
     clear HLV
     have HBN := Lib.hid HB8
     have HXN := Lib.hid HX8
     have HRN := Lib.hid HR8
     have HFN := Lib.hid HF8
     have HWN := Lib.hid HW8
     clear HB8 HX8 HR8 HF8 HW8
     go_wp2_with fail
     exact ⟨⟨k + 1, (l4, l5, l6), (h4, h5, h6), (u4, u5, u6), (f4, f5, f6), by omega, by go_num, HBN, HFN, HXN, HRN, HWN, hs8⟩, by simp [intOf]; omega⟩
   ·have hgo : (OP : Int) > 0 := by omega
    have hh2 : O2 = oof x c (opt x c k) k := OP2.out (by rw [HOE.out]; exact op0)
    have HL1 : Hid (∀ W, Below W0.heap.size W0 W → Calls Tryz.prog 58 #[.agg #[Value.int .u64 BS, .int .i64 CP, .int .i64 TT, .bool c, .int .i64 SC, .slice la ln lc, .slice ha hn hc, .slice ua un uc, .slice fa fn fc, .slice none 0 0, .slice (some ⟨gb, go, none⟩) N gc, .slice qa qn qc, .slice (some ⟨ib, io, none⟩) N ic, .slice (some ⟨jb, jo, none⟩) N jc], .agg #[.int .i64 OP, .int .i64 O2], .agg #[.slice pa pn pc, .slice da dn dc], .int .i64 0] W fun e w' => (∃ l h o f : Sl, e = .returned (.agg #[.int .u64 BS, .int .i64 CP, .int .i64 TT, .bool c, .int .i64 SC, .slice l.1 l.2.1 l.2.2, .slice h.1 h.2.1 h.2.2, .slice o.1 o.2.1 o.2.2, .slice f.1 f.2.1 f.2.2, .slice none 0 0, .slice (some ⟨gb, go, none⟩) N gc, .slice qa qn qc, .slice (some ⟨ib, io, none⟩) N ic, .slice (some ⟨jb, jo, none⟩) N jc]) ∧ Off w' w.heap.size (w.heap.size + 3) fun W => Off W 0 n0 fun W => FIn W x c (hpI x c (k + 1)) ⟨.slice l.1 l.2.1 l.2.2, .slice h.1 h.2.1 h.2.2, .slice o.1 o.2.1 o.2.2, .slice f.1 f.2.1 f.2.2, .slice none 0 0⟩ (some ⟨gb, go, none⟩, N, gc) (qa, qn, qc) (some ⟨ib, io, none⟩, N, ic) (some ⟨jb, jo, none⟩, N, jc)) ∧ Below W.heap.size W w') := Lib.hid fun W hW => by
     have hsw := hW.size
     have h1 := fill_o (nd := ((pa, pn, pc), (da, dn, dc))) ok (by omega) hkx (by rw [HOE.out]; exact op0) HHE.out (HF.out.tr hW) (HND.out.tr hW) (Nat.le_trans hs0 hsw)
     rw [← hh2, HOE.out] at h1
     unfold builtV bCells2 slV at h1
     dsimp only at h1
     rw [(HBS.out k).1, (HBS.out k).2.1, (HBS.out k).2.2.1, (HBS.out k).2.2.2.1, (HBS.out k).2.2.2.2] at h1
     exact h1
    clear hh2
    go_upto_region 8 with (fail)
    refine wp_region_held_drew (S := (fun w' => w'.cell? ⟨w.heap.size, 13, none⟩ = some (.slice (some ⟨jb, jo, none⟩) N jc) ∧ w'.cell? ⟨jb, jo + k * 2, none⟩ = some (.int .i64 OP) ∧ w'.cell? ⟨jb, jo + k * 2 + 1, none⟩ = some (.int .i64 O2) ∧ w'.cell? ⟨NB, 0, none⟩ = some (.slice pa pn pc) ∧ w'.cell? ⟨NB, 1, none⟩ = some (.slice da dn dc) ∧ w'.cell? ⟨w.heap.size + 1, 4, none⟩ = some (.int .i64 x.slack))) (by kernel_rfl) ?_ (fun hHeld => ?_)
    ·(try dsimp only); refine s6_tr (W := W0) ?_ (cb 13) od0 od1 (cn 0) (cn 1) (cx 4); exact bm
    refine tk 1 ?_
    refine tk 2 ?_
    refine tk 3 ?_
    refine tk 4 ?_
    refine tk 5 ?_
    refine tk 6 ?_
    have hkeep : Hid (∀ W1 : World, Below W0.heap.size W0 W1 → W1.cell? ⟨w.heap.size, 13, none⟩ = some (.slice (some ⟨jb, jo, none⟩) N jc) ∧ W1.cell? ⟨jb, jo + k * 2, none⟩ = some (.int .i64 OP) ∧ W1.cell? ⟨jb, jo + k * 2 + 1, none⟩ = some (.int .i64 O2) ∧ W1.cell? ⟨NB, 0, none⟩ = some (.slice pa pn pc) ∧ W1.cell? ⟨NB, 1, none⟩ = some (.slice da dn dc) ∧ W1.cell? ⟨w.heap.size + 1, 4, none⟩ = some (.int .i64 x.slack)) := Lib.hid fun W1 h => s6_tr (W := W0) h (cb 13) od0 od1 (cn 0) (cn 1) (cx 4)
    refine co 0 fun K hK => ?_
    go_simp
    skip
    refine hK.out _ _ ?_ (fun hHeld => ?_)
    ·(try dsimp only); refine hkeep.out _ ?_; exact bm
    clear hK K
    refine nx ?_
    refine co 7 fun K hK => ?_
    go_simp
    go_at_call 58; refine (HL1.out _ (by exact bm)).mono ?_; rintro e w5 ⟨⟨⟨l1, l2, l3⟩, ⟨h1, h2, h3⟩, ⟨u1, u2, u3⟩, ⟨f1, f2, f3⟩, rfl, hf5⟩, k5⟩; go_wp2_with fail
    refine hK.out _ _ ?_ (fun hHeld => ?_)
    ·(try dsimp only); refine hkeep.out _ ?_; exact bm
    clear hK K
    refine nx ?_
    have b5 : Below W0.heap.size W0 w5 := by exact bm
    have HB5 := HB.out.tr b5
    obtain ⟨lb5, cb5, fb5⟩ := HB5.get
    have hnx : w.heap.size + 1 ≠ w.heap.size := by omega
    have hnr : w.heap.size + 2 ≠ w.heap.size := by omega
    obtain ⟨LV, hLV⟩ : ∃ L : List (Nat × Value), L = [(0, Value.int .u64 BS), (1, .int .i64 CP), (2, .int .i64 TT), (3, .bool c), (4, .int .i64 SC), (5, .slice l1 l2 l3), (6, .slice h1 h2 h3), (7, .slice u1 u2 u3), (8, .slice f1 f2 f3), (9, .slice none 0 0), (10, .slice (some ⟨gb, go, none⟩) N gc), (11, .slice qa qn qc), (12, .slice (some ⟨ib, io, none⟩) N ic), (13, .slice (some ⟨jb, jo, none⟩) N jc)] := ⟨_, rfl⟩
    have hW : ((((((((((((((w5.setCell ⟨w.heap.size, 0, none⟩ (.int .u64 BS)).setCell ⟨w.heap.size, 1, none⟩ (.int .i64 CP)).setCell ⟨w.heap.size, 2, none⟩ (.int .i64 TT)).setCell ⟨w.heap.size, 3, none⟩ (.bool c)).setCell ⟨w.heap.size, 4, none⟩ (.int .i64 SC)).setCell ⟨w.heap.size, 5, none⟩ (.slice l1 l2 l3)).setCell ⟨w.heap.size, 6, none⟩ (.slice h1 h2 h3)).setCell ⟨w.heap.size, 7, none⟩ (.slice u1 u2 u3)).setCell ⟨w.heap.size, 8, none⟩ (.slice f1 f2 f3)).setCell ⟨w.heap.size, 9, none⟩ (.slice none 0 0)).setCell ⟨w.heap.size, 10, none⟩ (.slice (some ⟨gb, go, none⟩) N gc)).setCell ⟨w.heap.size, 11, none⟩ (.slice qa qn qc)).setCell ⟨w.heap.size, 12, none⟩ (.slice (some ⟨ib, io, none⟩) N ic)).setCell ⟨w.heap.size, 13, none⟩ (.slice (some ⟨jb, jo, none⟩) N jc)) = setC w5 w.heap.size LV := by rw [hLV]; simp only [setC]
    have HWE := Lib.hid hW
    have HLV := Lib.hid hLV
    clear hW
    have HB6 := Blk.setC (L := LV) HB5
    have h12 : (setC w5 w.heap.size LV).cell? ⟨w.heap.size, 13, none⟩ = some (.slice (some ⟨jb, jo, none⟩) N jc) := by
     rw [HB6.get.2.1 13, hLV]
     simp only [setA, List.setIfInBounds_toArray, List.set_cons_zero, List.set_cons_succ]
     rfl
    clear hLV
    have H12 := Lib.hid h12
    have HB6 := Lib.hid HB6
    clear h12
    have HC0 := Lib.hid hc0
    have HC1 := Lib.hid hc1
    have HD0 := Lib.hid od0
    have HD1 := Lib.hid od1
    have B5 := Lib.hid b5
    clear hc0 hc1 od0 od1 hxx lx cx fx ln_ cn fn_ hkeep lb cb fb hbb b5
    refine co 8 fun K hK => ?_
    go_simp
    skip
    refine hK.out _ _ ?_ (fun hHeld => ?_)
    ·(try dsimp only); rw [HWE.out]; exact ⟨H12.out, cell_setC hHeld.2.1 (Nat.ne_of_lt hjb), cell_setC hHeld.2.2.1 (Nat.ne_of_lt hjb), cell_setC hHeld.2.2.2.1 hNB, cell_setC hHeld.2.2.2.2.1 hNB, cell_setC hHeld.2.2.2.2.2 hnx⟩
    clear hK K
    refine nx ?_
    refine wpAnyH_done (by kernel_rfl) ?_ _
    have b5 := B5.out
    have hc0 := HC0.out
    have hc1 := HC1.out
    have od0 := HD0.out
    have od1 := HD1.out
    have HX6 := Blk.offC (L := LV) (b := w.heap.size) (HX.out.tr b5) hnx
    have HR6 := Blk.offC (L := LV) (b := w.heap.size) (HR.out.tr b5) hnr
    have HF6 := Off.setC (L := LV) hf5 (Nat.le_refl _) (show w.heap.size < w.heap.size + 3 by omega)
    have HW6 := low_setC (L := LV) (kp_tr HW0.out b5) (Nat.le_refl _)
    have hs6 : w.heap.size + 3 ≤ (setC w5 w.heap.size LV).heap.size := by rw [setC_size]; exact Nat.le_trans hs0 b5.size
    have hc06 := cell_setC (L := LV) (cell_tr b5 hc0) (Nat.ne_of_lt hib)
    have hc16 := cell_setC (L := LV) (cell_tr b5 hc1) (Nat.ne_of_lt hib)
    have od06 := cell_setC (L := LV) (cell_tr b5 od0) (Nat.ne_of_lt hjb)
    have od16 := cell_setC (L := LV) (cell_tr b5 od1) (Nat.ne_of_lt hjb)
    replace HB6 := HB6.out
    rw [← HWE.out] at HB6 HX6 HR6 HF6 HW6 hs6 hc06 hc16 od06 od16
    clear HWE H12 HB5 lb5 cb5 fb5 b5 hf5 k5 hHeld KN HB HX HR HF HND HW0 hc0 hc1 od0 od1 hs0 hsz HL1 HC0 HC1 HD0 HD1 B5
    generalize ((((((((((((((w5.setCell ⟨w.heap.size, 0, none⟩ (.int .u64 BS)).setCell ⟨w.heap.size, 1, none⟩ (.int .i64 CP)).setCell ⟨w.heap.size, 2, none⟩ (.int .i64 TT)).setCell ⟨w.heap.size, 3, none⟩ (.bool c)).setCell ⟨w.heap.size, 4, none⟩ (.int .i64 SC)).setCell ⟨w.heap.size, 5, none⟩ (.slice l1 l2 l3)).setCell ⟨w.heap.size, 6, none⟩ (.slice h1 h2 h3)).setCell ⟨w.heap.size, 7, none⟩ (.slice u1 u2 u3)).setCell ⟨w.heap.size, 8, none⟩ (.slice f1 f2 f3)).setCell ⟨w.heap.size, 9, none⟩ (.slice none 0 0)).setCell ⟨w.heap.size, 10, none⟩ (.slice (some ⟨gb, go, none⟩) N gc)).setCell ⟨w.heap.size, 11, none⟩ (.slice qa qn qc)).setCell ⟨w.heap.size, 12, none⟩ (.slice (some ⟨ib, io, none⟩) N ic)).setCell ⟨w.heap.size, 13, none⟩ (.slice (some ⟨jb, jo, none⟩) N jc)) = W1 at *
    rw [HLV.out] at HB6
    simp only [setA, List.setIfInBounds_toArray, List.set_cons_zero, List.set_cons_succ] at HB6
    clear HLV
    have HBN := Lib.hid HB6
    have HXN := Lib.hid HX6
    have HRN := Lib.hid HR6
    have HFN := Lib.hid HF6
    have HWN := Lib.hid HW6
    obtain ⟨lb, cb, fb⟩ := HB6.get
    clear HX6 HR6 HF6 HW6
    clear HB6
    go_wp2_with fail
    exact ⟨⟨k + 1, (l1, l2, l3), (h1, h2, h3), (u1, u2, u3), (f1, f2, f3), by omega, by go_num, HBN, HFN, HXN, HRN, HWN, hs6⟩, by simp [intOf]; omega⟩
  ·obtain rfl : k = N := by omega
   have hbb := HB.out
   obtain ⟨lb, cb, fb⟩ := hbb.get
   have HRR : Hid (∀ j (h : j < (gRoots x).length), (gRoots x)[j] < (k : Int) ∧ -1 ≤ (gRoots x)[j]) := Lib.hid fun j h => by
    have := gRoots_in x _ (List.getElem_mem h)
    rw [HNE.out] at this
    exact ⟨this.2, this.1⟩
   obtain ⟨RL, hRL⟩ : ∃ l, l = (gRoots x).map (rootV x c) := ⟨_, rfl⟩
   have HRL := Lib.hid hRL
   have HRQ : Hid (∀ j (h : j < (gRoots x).length), RL.take (j + 1) = RL.take j ++ [rootV x c (gRoots x)[j]]) := Lib.hid fun j h => by
    rw [hRL, List.take_succ_eq_append_getElem (by simpa using h)]
    simp
   have HRN : Hid (RL.length = qn) := Lib.hid (by rw [hRL, List.length_map, HQN.out])
   clear hRL
   have hq5 : qn ≤ 5 := by rw [HQN.out]; exact roots_len (x := x)
   go_wp2_with fail
   go_loopw [8, 9] (fun rv i ws => ∃ j : Nat, j ≤ qn ∧ i = .int .i64 j ∧ Hid (OwnR 24 1 enU ws wr.heap.size rv (RL.take j)) ∧ Below wr.heap.size wr ws) (fun _ i _ => qn - (intOf i).toNat)
   case atStart => exact ⟨0, Nat.zero_le _, rfl, Lib.hid (OwnR.nil _ _), Below.refl _ _⟩
   case round =>
    obtain ⟨j, hj, rfl, ho, bel⟩ := hrel
    rename World => w0'
    have hbv := hbb.tr bel
    obtain ⟨lb', cb', fb'⟩ := hbv.get
    have hsv := bel.size
    by_cases hj2 : j < qn
    ·have hjr : j < (gRoots x).length := by rw [← HQN.out]; exact hj2
     obtain rfl := q1 (by omega)
     have F := HF.out.now.now
     have hrt0 := F.roots.at (i := j) (List.getElem?_eq_getElem hjr) 0 _ rfl
     rw [Nat.mul_one, Nat.add_zero] at hrt0
     have hqb := q5 (by omega)
     have hqw := HW.out.size
     have hrt := cell_tr bel hrt0
     obtain ⟨hr1, hr2⟩ := HRR.out j hjr
     have HRT := Lib.hid (HRQ.out j hjr)
     have HLN : Hid ((RL.take j).length + 1 < 100000000000) := Lib.hid (by rw [List.length_take]; omega)
     generalize (gRoots x)[j] = R at *
     clear hjr
     generalize hdn : RL.take j = done at *
     clear hdn
     by_cases hR : R < 0
     ·have hv0 : rootV x c R = 0 := by unfold rootV; rw [if_neg (by omega)]
      rw [hv0] at HRT
      clear hv0
      go_wp2_with (at_builtin; refine app_u _ rfl _ _ rfl wr.heap.size _ _ _ [0] rfl rfl (ho.out.tr ?e0) (one_u _ _ rfl) ?e1 ?e2 ?e3)
      case e0 => exact bm
      case e1 => exact HLN.out
      case e2 => have := bel.size; simp; omega
      case e3 =>
      intro v4 w4 o4 hg4 hat4
      have b4 : Below wr.heap.size wr w4 := gr_low hg4 (by (repeat (first | with_reducible exact Below.refl _ _ | with_reducible assumption | with_reducible refine low_alloc ?_ (by omega) _ | with_reducible refine low_drew ?_ | with_reducible refine low_set ?_ (by first | omega | (simp; done) | (simp; omega)) _))) ho.out.block (Nat.le_refl _) (Nat.le_refl _)
      have O4 : Hid (OwnR 24 1 enU w4 wr.heap.size v4 (RL.take (j + 1))) := Lib.hid (by rw [HRT.out]; exact o4)
      go_wp2_with fail
      exact ⟨⟨j + 1, by omega, by go_num, O4, b4⟩, by simp [intOf]; omega⟩
     ·obtain ⟨r, rfl⟩ := Int.eq_ofNat_of_zero_le (show 0 ≤ R by omega)
      have hrk : r < k := by omega
      have hrx : r < nN x := by rw [HNE.out]; exact hrk
      obtain rfl := i1 (by omega)
      have hib := i5 (by omega)
      have hv0 : rootV x c (r : Int) = hrf x c r := by unfold rootV; rw [if_pos (by omega)]; simp
      rw [hv0] at HRT
      have hc0 := cell_tr bel (F.bin.hl.at (i := r) (pl_get hrx) 0 (.int .i64 (plH x c r).1) rfl)
      have hc1 := cell_tr bel (F.bin.hl.at (i := r) (pl_get hrx) 1 (.int .i64 (plH x c r).2) rfl)
      rw [Nat.add_zero] at hc0
      have HRF : Hid (∀ W, Calls Tryz.prog 59 #[.agg #[Value.int .u64 BS, .int .i64 CP, .int .i64 TT, .bool c, .int .i64 SC, .slice la ln lc, .slice ha hn hc, .slice ua un uc, .slice fa fn fc, .slice none 0 0, .slice ga k gc, .slice (some ⟨qb, qo, none⟩) qn qc, .slice (some ⟨ib, io, none⟩) k ic, .slice ja k jc], .agg #[.int .i64 (plH x c r).1, .int .i64 (plH x c r).2]] W fun e w' => e = .returned (.int .u64 (hrf x c r)) ∧ Below W.heap.size W w') := Lib.hid fun W => by
       have h1 := ref_h F.bin ok hrx W
       unfold builtV bCells2 slV at h1
       dsimp only at h1
       rw [(HBS.out k).1, (HBS.out k).2.1, (HBS.out k).2.2.1, (HBS.out k).2.2.2.1, (HBS.out k).2.2.2.2] at h1
       exact h1
      generalize (plH x c r).1 = HP at *
      generalize (plH x c r).2 = H2 at *
      generalize hrf x c r = RV at *
      clear hv0 F hrx
      have hri : (r : Int) ≥ 0 := by omega
      have hrki : (r : Int) < (k : Int) := by omega
      go_upto_region 19 with (fail)
      go_region_held3 (fun w' => (∀ i, w'.cell? ⟨w.heap.size, i, none⟩ = #[Value.int .u64 BS, .int .i64 CP, .int .i64 TT, .bool c, .int .i64 SC, .slice la ln lc, .slice ha hn hc, .slice ua un uc, .slice fa fn fc, .slice none 0 0, .slice ga k gc, .slice (some ⟨qb, qo, none⟩) qn qc, .slice (some ⟨ib, io, none⟩) k ic, .slice ja k jc][i]?) ∧ w'.cell? ⟨qb, qo + j, none⟩ = some (.int .i64 (r : Int)) ∧ w'.cell? ⟨ib, io + r * 2, none⟩ = some (.int .i64 HP) ∧ w'.cell? ⟨ib, io + r * 2 + 1, none⟩ = some (.int .i64 H2) ∧ w'.cell? ⟨qb, qo + j, none⟩ = some (.int .i64 (r : Int)))
       (first | (refine s5b_tr (W := w0') ?_ lb' cb' hrt hc0 hc1 hrt; exact bm))
       (first | (go_at_call 59; refine (HRF.out _).mono ?_; rintro e w5 ⟨rfl, k5⟩))
      have b5 : Below w0'.heap.size w0' w5 := by exact bm
      have ho5 := ho.out.tr b5
      have bel5 := kp_tr bel b5
      go_wp2_with (at_builtin; refine app_u _ rfl _ _ rfl wr.heap.size _ _ _ [RV] rfl rfl (ho5.tr ?e0) (one_u _ _ rfl) ?e1 ?e2 ?e3)
      case e0 => exact bm
      case e1 => exact HLN.out
      case e2 => have := bel5.size; simp; omega
      case e3 =>
      intro v4 w4 o4 hg4 hat4
      have b4 : Below wr.heap.size wr w4 := gr_low hg4 (by (repeat (first | with_reducible exact Below.refl _ _ | with_reducible assumption | with_reducible refine low_alloc ?_ (by omega) _ | with_reducible refine low_drew ?_ | with_reducible refine low_set ?_ (by first | omega | (simp; done) | (simp; omega)) _))) ho5.block (Nat.le_refl _) (Nat.le_refl _)
      have O4 : Hid (OwnR 24 1 enU w4 wr.heap.size v4 (RL.take (j + 1))) := Lib.hid (by rw [HRT.out]; exact o4)
      go_wp2_with fail
      exact ⟨⟨j + 1, by omega, by go_num, O4, b4⟩, by simp [intOf]; omega⟩
    ·obtain rfl : j = qn := by omega
     have HRE : Hid (RL.take j = RL) := Lib.hid (by rw [← HRN.out, List.take_length])
     have ho2 := ho.out
     rw [HRE.out, HRL.out] at ho2
     clear ho
     obtain ⟨rva, rvl, rvc, rfl⟩ := own_form3 ho2 enU_len
     have hb0 : w.heap.size < wr.heap.size := by omega
     have hb2 : w.heap.size + 1 + 1 < wr.heap.size := by omega
     have hr0 : w.heap.size + 1 + 1 ≠ w.heap.size := by omega
     have hbw := kp_tr HW.out bel
     have hR9 : Blk w0' (w.heap.size + 1 + 1) _ 32 := HR.out.tr bel
     have hF9 := HF.out.tr bel
     go_upto_region 22 with (fail)
     replace hbv := hbv.set 9 (.slice rva rvl rvc)
     replace hR9 := hR9.other (p := ⟨w.heap.size, 9, none⟩) hr0 (.slice rva rvl rvc)
     replace hF9 := Off.set hF9 (p := ⟨w.heap.size, 9, none⟩) (Nat.le_refl _) (show w.heap.size < w.heap.size + 3 by omega) (.slice rva rvl rvc)
     replace ho2 := OwnR.setLow ho2 (p := ⟨w.heap.size, 9, none⟩) hb0 (.slice rva rvl rvc)
     replace hbw := low_set hbw (p := ⟨w.heap.size, 9, none⟩) (Nat.le_refl _) (.slice rva rvl rvc)
     clear lb' cb' fb' lb cb fb hbb bel HB HX HR HF HW hsv
     generalize w0'.setCell ⟨w.heap.size, 9, none⟩ (.slice rva rvl rvc) = W9 at *
     simp only [List.setIfInBounds_toArray, List.set_cons_zero, List.set_cons_succ] at hbv
     obtain ⟨lb, cb, fb⟩ := hbv.get
     obtain ⟨lr, cr, fr⟩ := hR9.get
     go_wp2_with fail
     obtain ⟨LV, hLV⟩ : ∃ L : List (Nat × Value), L = [(0, Value.int .u64 BS), (1, .int .i64 CP), (2, .int .i64 TT), (3, .bool c), (4, .int .i64 SC), (5, .slice la ln lc), (6, .slice ha hn hc), (7, .slice ua un uc), (8, .slice fa fn fc), (9, .slice rva rvl rvc)] := ⟨_, rfl⟩
     have hW : ((((((((((W9.setCell ⟨w.heap.size + 1 + 1, 0, none⟩ (.int .u64 BS)).setCell ⟨w.heap.size + 1 + 1, 1, none⟩ (.int .i64 CP)).setCell ⟨w.heap.size + 1 + 1, 2, none⟩ (.int .i64 TT)).setCell ⟨w.heap.size + 1 + 1, 3, none⟩ (.bool c)).setCell ⟨w.heap.size + 1 + 1, 4, none⟩ (.int .i64 SC)).setCell ⟨w.heap.size + 1 + 1, 5, none⟩ (.slice la ln lc)).setCell ⟨w.heap.size + 1 + 1, 6, none⟩ (.slice ha hn hc)).setCell ⟨w.heap.size + 1 + 1, 7, none⟩ (.slice ua un uc)).setCell ⟨w.heap.size + 1 + 1, 8, none⟩ (.slice fa fn fc)).setCell ⟨w.heap.size + 1 + 1, 9, none⟩ (.slice rva rvl rvc)) = setC W9 (w.heap.size + 1 + 1) LV := by rw [hLV]; simp only [setC]
     replace hR9 := Blk.setC (L := LV) hR9
     replace hF9 := Off.setC (L := LV) (b := w.heap.size + 1 + 1) hF9 (by omega) (by omega)
     replace ho2 := OwnR.offC (L := LV) ho2 hb2
     replace hbw := low_setC (L := LV) (b := w.heap.size + 1 + 1) hbw (by omega)
     rw [← hW] at hR9 hF9 ho2 hbw
     clear hW lb cb fb lr cr fr hbv
     generalize ((((((((((W9.setCell ⟨w.heap.size + 1 + 1, 0, none⟩ (.int .u64 BS)).setCell ⟨w.heap.size + 1 + 1, 1, none⟩ (.int .i64 CP)).setCell ⟨w.heap.size + 1 + 1, 2, none⟩ (.int .i64 TT)).setCell ⟨w.heap.size + 1 + 1, 3, none⟩ (.bool c)).setCell ⟨w.heap.size + 1 + 1, 4, none⟩ (.int .i64 SC)).setCell ⟨w.heap.size + 1 + 1, 5, none⟩ (.slice la ln lc)).setCell ⟨w.heap.size + 1 + 1, 6, none⟩ (.slice ha hn hc)).setCell ⟨w.heap.size + 1 + 1, 7, none⟩ (.slice ua un uc)).setCell ⟨w.heap.size + 1 + 1, 8, none⟩ (.slice fa fn fc)).setCell ⟨w.heap.size + 1 + 1, 9, none⟩ (.slice rva rvl rvc)) = W10 at *
     rw [hLV] at hR9
     simp only [setA, List.setIfInBounds_toArray, List.set_cons_zero, List.set_cons_succ] at hR9
     clear hLV
     obtain ⟨lr, cr, fr⟩ := hR9.get
     have hfin : Off W10 0 n0 fun W => HIn W (heapP x c) ⟨.slice la ln lc, .slice ha hn hc, .slice ua un uc, .slice fa fn fc, .slice rva rvl rvc⟩ := fun W' hq1 hq2 => fin_hin ok (by rw [HNE.out]; exact hF9.now W' hq1 hq2) (own_off enU_len (n := 0) (m := n0) ho2 (by omega) W' hq1 hq2) (by omega)
     refine bodyPost_ret (v := .agg #[Value.int .u64 BS, .int .i64 CP, .int .i64 TT, .bool c, .int .i64 SC, .slice la ln lc, .slice ha hn hc, .slice ua un uc, .slice fa fn fc, .slice rva rvl rvc]) (by simp only [results, Tryz.results22]; go_simp) rfl ⟨⟨⟨.slice la ln lc, .slice ha hn hc, .slice ua un uc, .slice fa fn fc, .slice rva rvl rvc⟩, ?_, hfin⟩, hbw⟩
     unfold hpV
     rw [HRV.out.1, HRV.out.2.1, HRV.out.2.2.1, HRV.out.2.2.2.1, HRV.out.2.2.2.2]
end Go.Proofs.YtpgjploaliefdaaGreat.rh
