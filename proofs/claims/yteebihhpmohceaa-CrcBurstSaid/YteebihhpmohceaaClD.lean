/- CrcBurst: the walk. No conditions. -/
import Derived.Test.YteebihhpmohceaaCn
import Derived.Deep.RegionHeld3
namespace Go.Proofs.Yteebihhpmohceaa.cw
open Go.RowKit Go.Proofs.Yteebihhpmohceaa.cm
set_option linter.unusedVariables false
set_option linter.unusedSimpArgs false
theorem info_byte : (Try.prog.info? 5).map (fun i => (i.zero, i.size, i.bytes)) = some (some (.int .u8 0), 1, 1) := by kernel_rfl
def BurstIn (w w1 wx : World) (v : Value) : Prop := ∃ (a : ByteArray) (c : Nat), v = .slice (some ⟨w1.heap.size, 0, none⟩) a.size c ∧ a.size ≤ 60 ∧ RowN wx w1.heap.size (bytesN a) ∧ Below w.heap.size w wx ∧ w1.heap.size < wx.heap.size
theorem burstIn_mk {w w1 : World} {z : ByteArray} {m c C : Nat} {f : Nat × Nat} (k : Below w.heap.size w w1) (h : m = z.size) (h60 : z.size ≤ 60) : BurstIn w w1 (w1.alloc (.cells (bytesRow z C) 5 f)).drew (.slice (some ⟨w1.heap.size, 0, none⟩) m c) :=
  ⟨z, c, by rw [h], h60, (RowN.str _ _ _ _).drew, kp_drew (kp_alloc k _), by show _ < (w1.alloc _).heap.size; simp⟩
theorem row_news {w : World} {n : Nat} {t : List Nat} (h : RowN w n t) : ∀ j u, (t.map (fun b : Nat => Value.int .u8 (b : Int)))[j]? = some u → w.cell? ((⟨n, 0, none⟩ : Addr).add j) = some u := by
  intro j u hj
  have hl : j < t.length := by
    rcases Nat.lt_or_ge j t.length with h1 | h1
    · exact h1
    · simp [h1] at hj
  have e : (⟨n, 0, none⟩ : Addr).add j = ⟨n, j, none⟩ := by unfold Addr.add; split <;> simp_all
  rw [e, h.at j hl, ← hj]
  simp [List.getD, hl]
theorem row_one (t : List Nat) : ∀ u ∈ t.map (fun b : Nat => Value.int .u8 (b : Int)), u.oneCell' = true := by
  intro u hu
  obtain ⟨b, _, rfl⟩ := List.mem_map.1 hu
  rfl
/-- The copy of a text's bytes: a block of one's own, whose first cells are t. -/
def OwnN (w : World) (g cap : Nat) (t : List Nat) : Prop := ∃ cur : Array Value, Blk w g cur 5 ∧ cur.size = cap ∧ cap ≤ maxLen ∧ t.length ≤ cap ∧ ∀ i, i < t.length → cur[i]? = some (.int .u8 ((t.getD i 0 : Nat) : Int))
theorem row_got {w w' : World} {base n : Nat} {v : Value} {t : List Nat} (ho : w'.ownsRow base 5 1 v n (t.map (fun b : Nat => Value.int .u8 (b : Int)))) (hg : w.grownBy w' (Value.slice none 0 0).ownBlock) (hb : base ≤ w.heap.size) (h0 : ¬ n = 0) (hn : t.length = n) :
    ∃ g cap, v = .slice (some ⟨g, 0, none⟩) n cap ∧ base ≤ g ∧ OwnN w' g cap t ∧ n ≤ cap ∧ Below w.heap.size w w' := by
  obtain ⟨hlen, hd⟩ := ho
  rcases hd with ⟨_, h1⟩ | ⟨g, cap, cur, rfl, h1, h2, h3, h4, h5, h6⟩
  · exact absurd h1 h0
  · refine ⟨g, cap, rfl, h1, ⟨cur, Blk.of h2, by omega, h4, by omega, fun i hi => ?_⟩, h3, (Below.refl _ _).grown hg (Nat.le_refl _) (fun k hk => by simp [Value.ownBlock] at hk)⟩
    have h7 := congrArg (fun l => l[i]?) h6
    simp only [List.getElem?_take, List.getElem?_map] at h7
    rw [if_pos (by omega)] at h7
    rw [← Array.getElem?_toList, h7]
    simp [List.getD, hi]
theorem bit_int (T j : Nat) : ((T : Int) / 2 ^ j).tmod 2 = ((T / 2 ^ j % 2 : Nat) : Int) := by
  rw [show ((T : Int) / 2 ^ j) = ((T / 2 ^ j : Nat) : Int) from by simp, Int.tmod_eq_emod_of_nonneg (Int.natCast_nonneg _)]
  rfl
theorem bit_yes (T j : Nat) (h : T / 2 ^ j % 2 = 1) : (((T : Int) / 2 ^ j).tmod 2 == 1) = true := by rw [bit_int, h]; rfl
theorem bit_no (T j : Nat) (h : ¬ T / 2 ^ j % 2 = 1) : (((T : Int) / 2 ^ j).tmod 2 == 1) = false := by rw [bit_int, show T / 2 ^ j % 2 = 0 from by omega]; rfl
theorem rn2_tr {W w1 : World} (hb : Below W.heap.size W w1) {m n : Nat} {t u : List Nat} (h : RowN W m t ∧ RowN W n u) : RowN w1 m t ∧ RowN w1 n u := ⟨h.1.tr hb, h.2.tr hb⟩
theorem rn2_drew {W : World} {m n : Nat} {t u : List Nat} (h : RowN W m t ∧ RowN W n u) : RowN W.drew m t ∧ RowN W.drew n u := ⟨h.1.drew, h.2.drew⟩
theorem rn2_drew2 {W : World} {m n : Nat} {t u : List Nat} (h : RowN W m t) (h' : RowN W n u) : RowN W.drew m t ∧ RowN W.drew n u := ⟨h.drew, h'.drew⟩
theorem own_row {w : World} {g cap : Nat} {t : List Nat} (h : OwnN w g cap t) : RowN w g t := by
  obtain ⟨cur, hB, _, _, _, hc⟩ := h
  obtain ⟨_, cB, _⟩ := hB.get
  exact RowN.mk fun i hi => (cB i).trans (hc i hi)
theorem own_set {w : World} {g cap : Nat} {u : List Nat} {j m : Nat} {x : Int} (h : OwnN w g cap u) (hj : j < u.length) (hm : m < 8) (h8 : u.getD j 0 < 256) (hx : x = ((u.getD j 0 : Nat) : Int)) :
    OwnN (w.setCell ⟨g, j, none⟩ (.int .u8 (bits BinOp.xor IntKind.u8 x (2 ^ m % 256)))).drew g cap (setX u j m) := by
  have hp : 2 ^ m < 256 := (Nat.pow_lt_pow_right (by decide) hm : 2 ^ m < 2 ^ 8)
  have hv : bits BinOp.xor IntKind.u8 x (2 ^ m % 256) = ((u.getD j 0 ^^^ 2 ^ m : Nat) : Int) := by
    rw [hx, show ((2 : Int) ^ m % 256) = ((2 ^ m : Nat) : Int) from by rw [show ((2 : Int) ^ m) = ((2 ^ m : Nat) : Int) from by simp]; exact Int.emod_eq_of_lt (Int.natCast_nonneg _) (Int.ofNat_lt.mpr hp)]
    exact u8_xor_nat _ _ h8 hp
  rw [hv]
  obtain ⟨cur, hB, h1, h2, h3, hc⟩ := h
  refine ⟨cur.setIfInBounds j _, (hB.set j _).drew, by simp [h1], h2, by rw [setX_len]; exact h3, fun i hi => ?_⟩
  rw [setX_len] at hi
  unfold setX
  by_cases e : j = i
  · subst e
    have : j < cur.size := by omega
    simp [this, hj, List.getD]
  · simp [e, List.getD]
    have := hc i hi
    simpa [List.getD] using this
theorem loop_end {k j : Nat} {m : Nat} (hj : j ≤ 32) (h : ¬ (j < 32 ∧ k + j < 8 * m)) : ¬ ((j : Int) < 32) ∨ ((j : Int) < 32 ∧ ¬ ((k : Int) + (j : Int) < 8 * (m : Int))) := by omega
set_option maxRecDepth 100000 in
theorem burst_walk (s : ByteArray) (at' turned : Int) (w : World) (hs : s.size ≤ maxLen) (hat : -9223372036854775808 ≤ at' ∧ at' < 9223372036854775808) (hT : 0 ≤ turned ∧ turned < 4294967296) :
    Calls Try.prog 5 #[.string s, .int .i64 at', .int .u32 turned] w fun e w' => e = .returned (.bool true) ∧ Below w.heap.size w w' := by
  unfold maxLen at hs
  obtain ⟨T, rfl⟩ := Int.eq_ofNat_of_zero_le hT.1
  have lT : T < 4294967296 := by omega
  clear hT
  have hcv := fun w s => run_bytes_of_string (P := Try.prog) w 9 31 5 s Try.underlying9 Try.underlying31 Try.underlying5
  go_enter Try.func5, Try.ntmps5
  go_wp2_with fail
  refine (awake_any _).mono ?_; rintro e w1 ⟨rfl, k1⟩
  go_upto_region 2 with (fail)
  go_cut [8] (fun v wx => BurstIn w w1 wx v)
  case first =>
    go_wp2_with fail
    all_goals go_meet
    all_goals refine burstIn_mk k1 ?_ ?_
    all_goals first | rfl | (simp only [ByteArray.size_extract]; omega) | omega | (simp; done) | (simp; omega)
  case rest =>
  obtain ⟨a, c, rfl, al, hR, k2, hlt2⟩ := hcut
  clear hcv hs
  have ah := bytesN_len a
  have alt := bytesN_lt a
  generalize hB : bytesN a = t at *
  clear hB
  by_cases h0 : a.size = 0
  · go_wp2_with fail
    go_ret
    refine ⟨rfl, ?_⟩
    exact k2
  · have h00 : ((a.size : Int) == 0) = false := beq_eq_false_iff_ne.mpr (by omega)
    go_wp2_with fail
    refine (pick_ex _ _ _ (by omega) (by omega) (by omega) (by omega)).mono ?_; rintro e ww ⟨⟨r, rg, rl, rfl⟩, rfl⟩
    obtain ⟨k, rfl⟩ := Int.eq_ofNat_of_zero_le rg
    obtain ⟨i0, hi, hz0, hz1, hz2⟩ := info_parts info_byte
    go_wp2_with (first | (at_builtin; refine wpList_append_own _ rfl _ _ 31 rfl wc.heap.size 5 i0 (.int .u8 0) 1 1 Try.underlying31 hi hz0 hz1 hz2 rfl (by decide) _ _ _ rfl (World.ownsRow_nil _ _ _ _) ⟨w1.heap.size, 0, none⟩ a.size c (t.map (fun b : Nat => .int .u8 (b : Int))) rfl ?c0 ?c1 ?c2 ?c3 ?c4 ?c5 ?_))
    case c0 => simp [ah]
    case c1 => exact row_news hR
    case c2 => exact row_one t
    case c3 => unfold maxLen; omega
    case c4 => omega
    case c5 => exact Nat.le_refl _
    intro v' w3 hown hgrow hnil
    obtain ⟨g, cap, rfl, hg, hRg, hcap, hk3⟩ := row_got hown hgrow (Nat.le_refl _) h0 ah
    have hgn : w1.heap.size ≠ g := by omega
    have hR3 := hR.tr hk3
    have hkk : k ≤ 8 * t.length := by omega
    have hb3 : Below w.heap.size w w3 := kp_tr k2 hk3
    have k2s := k2.size
    clear hR hown hgrow hnil hk3 h00 hi hz0 hz1 hz2 hat
    go_wp2_with fail
    go_loopw [11, 12] (fun f i wr => ∃ (j : Nat) (u : List Nat), j ≤ 32 ∧ k + j ≤ 8 * t.length ∧ i = .int .i64 j ∧ f = .bool (decide (T % 2 ^ j ≠ 0)) ∧ u.length = t.length ∧ (∀ b ∈ u, b < 256) ∧ numN u = numN t ^^^ 2 ^ k * (T % 2 ^ j) ∧ OwnN wr g cap u ∧ RowN wr w1.heap.size t ∧ Below w.heap.size w wr) (fun _ i _ => 32 - (intOf i).toNat)
    case atStart => exact ⟨0, t, by omega, by omega, rfl, by simp [Nat.mod_one], rfl, alt, by simp [Nat.mod_one], hRg, hR3, hb3⟩
    case round =>
      obtain ⟨j, u, hj, hkj, rfl, rfl, hul, hub, hnum, hO, hRr, hbr⟩ := hrel
      clear hR3 hRg hb3 k2 k1
      by_cases hlt : j < 32 ∧ k + j < 8 * t.length
      · obtain ⟨hl1, hl2⟩ := hlt
        obtain ⟨cur, hBg, hcs, hcm, hcl, hcc⟩ := hO
        obtain ⟨lB, cB, fB⟩ := hBg.get
        have hq : (k + j) / 8 < u.length := by omega
        have hcell : wr.cell? ⟨g, (k + j) / 8, none⟩ = some (.int .u8 ((u.getD ((k + j) / 8) 0 : Nat) : Int)) := (cB _).trans (hcc _ hq)
        have hfr := fB ((k + j) / 8)
        have hx8 : u.getD ((k + j) / 8) 0 < 256 := by rw [show u.getD ((k + j) / 8) 0 = u[(k + j) / 8] from by simp [List.getD, hq]]; exact hub _ (List.getElem_mem hq)
        clear cB fB
        by_cases hbit : T / 2 ^ j % 2 = 1
        · have hbt := bit_yes T j hbit
          go_wp2_with fail
          go_region
          go_wp2_with fail
          refine ⟨⟨j + 1, setX u ((k + j) / 8) ((k + j) % 8), by omega, by omega, by go_num, ?_, by rw [setX_len, hul], setX_lt hub _ _ (by omega), step_num hnum hbit hq, own_set ⟨cur, hBg, hcs, hcm, hcl, hcc⟩ hq (by omega) hx8 (by simp [List.getD]), (hRr.setCell (fun q => hgn q.symm) _).drew, ?_⟩, by simp [intOf]; omega⟩
          · simp [low_one T j hbit]
          · exact kp_drew (kp_set hbr (by have := k2s; simp; omega) _)
        · have hbt := bit_no T j hbit
          go_wp2_with fail
          refine ⟨⟨j + 1, u, by omega, by omega, by go_num, ?_, hul, hub, ?_, ⟨cur, hBg, hcs, hcm, hcl, hcc⟩, hRr, hbr⟩, by simp [intOf]; omega⟩
          · rw [low_none T j hbit]; simp
          · rw [low_none T j hbit]; exact hnum
      · have hRu := own_row hO
        have htest := loop_end (m := a.size) hj (by rw [← ah]; exact hlt)
        have hcT := fun W (h : RowN W w1.heap.size t) => h.conv a.size c ah
        have hcU := fun W (h : RowN W g u) => h.conv a.size cap (hul.trans ah)
        have hzt := strN_size t
        have hzu := strN_size u
        have HT := Lib.hid (bytesN_strN t alt)
        have HU := Lib.hid (bytesN_strN u hub)
        have HE := Lib.hid (burst_end (k := k) (i := j) (T := T) hul hnum hkk lT)
        clear hnum hub alt hO hlt
        rcases htest with h32 | ⟨h32, h64⟩
        · go_wp2_with fail
          go_region_held3 (fun w' => RowN w' w1.heap.size t ∧ RowN w' g u)
            (first | (apply rn2_tr <;> assumption) | (apply rn2_drew; assumption) | (apply rn2_drew2 <;> assumption) | go_keep)
            (first | (go_at_call 12; refine (sum_any _ _ (szc _ (n := 64) (by rw [strN_size]; omega) (by omega))).mono ?_; rintro e w6 ⟨rfl, k6⟩))
          go_wp2_with fail
          rename_i w6a k6a hh
          rw [HT.out, HU.out, HE.out]
          go_ret
          refine ⟨rfl, ?_⟩
          (repeat (first | exact Below.refl _ _ | refine kp_alloc ?_ _ | refine kp_drew ?_ | refine kp_set ?_ (by first | (simp; done) | (simp; omega) | omega) _ | refine kp_tr ?_ (by with_reducible assumption)))
        · go_wp2_with fail
          go_region_held3 (fun w' => RowN w' w1.heap.size t ∧ RowN w' g u)
            (first | (apply rn2_tr <;> assumption) | (apply rn2_drew; assumption) | (apply rn2_drew2 <;> assumption) | go_keep)
            (first | (go_at_call 12; refine (sum_any _ _ (szc _ (n := 64) (by rw [strN_size]; omega) (by omega))).mono ?_; rintro e w6 ⟨rfl, k6⟩))
          go_wp2_with fail
          rename_i w6a k6a hh
          rw [HT.out, HU.out, HE.out]
          go_ret
          refine ⟨rfl, ?_⟩
          (repeat (first | exact Below.refl _ _ | refine kp_alloc ?_ _ | refine kp_drew ?_ | refine kp_set ?_ (by first | (simp; done) | (simp; omega) | omega) _ | refine kp_tr ?_ (by with_reducible assumption)))
end Go.Proofs.Yteebihhpmohceaa.cw
