/- check: the state's shapes. No conditions. -/
import Derived.Test.YtpgjploaliefdaaGreatDc
namespace Go.Proofs.YtpgjploaliefdaaGreat.ck
open Go Go.RowKit Go.Proofs.YtpgjploaliefdaaGreat.hp Go.Proofs.YtpgjploaliefdaaGreat.ob Go.Proofs.YtpgjploaliefdaaGreat.hd Go.Proofs.YtpgjploaliefdaaGreat.cp Go.Proofs.YtpgjploaliefdaaGreat.mp Go.Proofs.YtpgjploaliefdaaGreat.cm Go.Proofs.YtpgjploaliefdaaGreat.gr
set_option linter.unusedVariables false
set_option linter.unusedSimpArgs false
set_option maxRecDepth 100000
set_option maxHeartbeats 2000000
variable {w0 w W : World} {p : Pl} {h : Hp} {v : Hv} {s : Fnd} {ov : Ov}
def encS (x : Int × Int) : List Value := [.int .i64 x.1, .int .i64 x.2]
theorem info_shape : (Tryz.prog.info? 56).map (fun i => (i.zero, i.size, i.bytes)) = some (some (.agg #[.int .i64 0, .int .i64 0]), 2, 16) := by kernel_rfl
theorem encS_one {x : Int × Int} : ∀ u ∈ encS x, u.oneCell' = true := by intro u hu; simp [encS] at hu; rcases hu with rfl | rfl <;> rfl
abbrev OwnS (W : World) (B : Nat) (v : Value) (zs : List (Int × Int)) : Prop := OwnR 56 2 encS W B v zs
theorem app_shape {ops : Array Oper} {rest : List Oper} {o : Oper} {a : Act} {Q : Exit → Act → World → Prop} (w : World) (hw : Region.wanted o (yielded ops a.tmps) = true) (s x : Operand)
    (ho : o.op = .call { callee := .builtin .append, args := #[s, x], argTypes := #[39, 39] })
    (B : Nat) (v u : Value) (xs : List (Int × Int)) (y : Int × Int) (hs : a.eval s = v) (hx : a.eval x = u) (hown : OwnS w B v xs) (hys : RIn 2 encS w u [y]) (hbig : xs.length + 1 < 8000000000000) (hB : B ≤ w.heap.size)
    (h : ∀ v' w', OwnS w' B v' (xs ++ [y]) → w.grownBy w' v.ownBlock → (v'.ownBlock = v.ownBlock ∨ v'.ownBlock = some w.heap.size) → wpList Tryz.prog ops Q rest (a.put o.dst v') w') : wpList Tryz.prog ops Q (o :: rest) a w := by
  obtain ⟨i0, hi, hz0, hz1, hz2⟩ := info_parts info_shape
  unfold OwnS OwnR at hown
  refine append_g w hw s x _ ho B 56 i0 _ 2 16 Tryz.underlying39 hi hz0 hz1 hz2 rfl (by decide) v xs.length (xs.flatMap encS) hs hown u 1 ([y].flatMap encS) hx (src_g hys (fun _ => rfl)) rfl (fun u hu => ?_) (by unfold maxLen; omega) (by omega) hB ?_
  · obtain ⟨x, _, hx2⟩ := List.mem_flatMap.1 hu
    exact encS_one u hx2
  · intro v' w' h2 h3 h4
    refine h v' w' ?_ h3 h4
    unfold OwnS OwnR
    rw [List.length_append, List.flatMap_append]
    exact h2
theorem own_shapes {W : World} {B : Nat} {v : Value} {zs : List (Int × Int)} (h : OwnS W B v zs) (h0 : 0 < W.heap.size) (hl : zs.length < 1000000000000) : ShapesIn W v zs := by
  obtain ⟨ad, cap, rfl, h1, h2, h3, h4⟩ := h.form (fun _ => rfl)
  rcases Nat.eq_zero_or_pos zs.length with e | e
  · have hz : zs = [] := List.eq_nil_of_length_eq_zero e
    subst hz
    exact ⟨ad, 0, 0, cap, rfl, ⟨fun h => by simp at h, h3⟩, h1, ⟨h2, hl⟩, h0, ShapesAt.none _ _ _ _⟩
  · obtain ⟨g, rfl, h5, h6, h7⟩ := h4 e
    refine ⟨some ⟨g, 0, none⟩, g, 0, cap, rfl, ⟨fun _ => rfl, fun e => by cases e⟩, h1, ⟨h2, hl⟩, h6, ?_⟩
    unfold ShapesAt
    intro i hi
    have hx : zs[i]? = some zs[i] := List.getElem?_eq_getElem hi
    have e1 : zs.getD i (0, 0) = zs[i] := by simp [List.getD, hi]
    rw [e1]
    have k0 := h7 i 0 zs[i] (.int .i64 zs[i].1) hx rfl
    have k1 := h7 i 1 zs[i] (.int .i64 zs[i].2) hx rfl
    refine ⟨?_, ?_⟩
    · rw [← k0]; congr 2; omega
    · rw [← k1]; congr 2; omega
theorem shapesF_step {lf : Int → Option (Int × Int)} {zs : List Int} {f at_ : Nat} {acc : List (Int × Int)} (h : at_ < zs.length) : shapesF lf zs (f + 1) at_ acc =
      (if adE (zs.getD at_ 0) = 0 then
        (match lf (adV (zs.getD at_ 0)) with
        | none => acc
        | some sp => shapesF lf zs f (at_ + 1 + sp.1.toNat) (acc ++ [sp]))
      else if unE (zs.getD at_ 0) = 0 then shapesF lf zs f (at_ + 1 + (unS (zs.getD at_ 0)).toNat) acc else acc) := by
  exact if_pos h
theorem shapesF_end {lf : Int → Option (Int × Int)} {zs : List Int} {f at_ : Nat} {acc : List (Int × Int)} (h : ¬ at_ < zs.length) : shapesF lf zs (f + 1) at_ acc = acc := by
  exact if_neg h
theorem unS_in {x : Int} (h : unE x = 0) : 0 ≤ unS x ∧ unS x ≤ 255 := by
  have hu : unOk x = true := by
    rcases e : unOk x with _ | _
    · simp [unE, e] at h
    · rfl
  have h2 := hu
  simp only [unOk, Bool.and_eq_true] at h2
  obtain ⟨h3, h4, _⟩ := rightB_t h2.2
  simp only [unS, hu, if_true]
  exact ⟨h3, h4⟩
theorem below_ofO {A B : World} {n : Nat} {r : Option Nat} (hg : A.grownBy B r) (hn : n ≤ A.heap.size) (hr : ∀ k, r = some k → n ≤ k) : Below n A B :=
  ⟨hg.os, hg.tape, hg.output, hg.size, fun k hk => hg.block k (by omega) (fun e => by have := hr k e.symm; omega)⟩
theorem shapes_any (a : St w0 W p h v s ov) (u : Value) (zs : List Int) (hu : NumsIn W u zs) (hz : Small zs) :
    Calls Tryz.prog 110 #[.pointer (some ⟨p.b, 0, none⟩), u] W fun e w' => (∃ x, e = .returned x ∧ ShapesIn w' x (shapesA s.lf zs)) ∧ Below W.heap.size W w' := by
  obtain ⟨ad, b, off, cap, rfl, ⟨a1, a2⟩, a3, ⟨a4, a4'⟩, a5, a6⟩ := hu
  have A := Lib.hid a
  have HW := Lib.hid a6
  have HA1 := Lib.hid a1
  have HZ : Hid (∀ i, 0 ≤ zs.getD i 0 ∧ zs.getD i 0 < 18446744073709551616) := hz
  have hr := a.lr
  have HLR := Lib.hid hr
  have HSz : Hid (∀ W, (zeroValue 56).run Tryz.prog W = .ok (.agg #[.int .i64 0, .int .i64 0]) W) := Lib.hid fun W => by rw [Tryz.zeroValue56]
  have h0 : 0 < W.heap.size := by omega
  have HR : Hid (shapesA s.lf zs = shapesF s.lf zs (zs.length + 1) 0 []) := rfl
  generalize shapesA s.lf zs = R at *
  clear a a1 a2 a6 hz hr
  generalize hn : zs.length = n at *
  have HN := Lib.hid hn
  clear hn
  go_enter Tryz.func110, Tryz.ntmps110
  go_wp2_with fail
  go_loopw [6, 5] (fun i l wr => ∃ (at_ f : Nat) (acc : List (Int × Int)), at_ ≤ n + 256 ∧ i = .int .i64 at_ ∧ n < at_ + f ∧ acc.length ≤ at_ ∧ acc.length ≤ n ∧ Hid (R = shapesF s.lf zs f at_ acc) ∧ Hid (OwnS wr W.heap.size l acc) ∧ Hid (Below W.heap.size W wr)) (fun i _ _ => n - (intOf i).toNat)
  case atStart => exact ⟨0, n + 1, [], by omega, rfl, by omega, by simp, by simp, by have := HR.out; have h2 := HN.out; show _ = _; rw [this], OwnR.nil _ _, Below.refl _ _⟩
  case round =>
    obtain ⟨at_, f, acc, hat, rfl, hf, hal, han, hres, hown, hbr⟩ := hrel
    obtain ⟨va, vc, e5, q1, q2, q3, q4⟩ := hown.out.form (fun _ => rfl)
    subst e5
    clear q1 q2 q3 q4
    have hws := hbr.out.size
    by_cases hlt : at_ < n
    · obtain ⟨f, rfl⟩ : ∃ f', f = f' + 1 := ⟨f - 1, by omega⟩
      obtain rfl := HA1.out (by omega)
      have hx := (HW.out.block (hbr.out.block b a5)).at at_ hlt
      have hzx := HZ.out at_
      have HS : Hid (R = (if adE (zs.getD at_ 0) = 0 then
        (match s.lf (adV (zs.getD at_ 0)) with
        | none => acc
        | some sp => shapesF s.lf zs f (at_ + 1 + sp.1.toNat) (acc ++ [sp]))
        else if unE (zs.getD at_ 0) = 0 then shapesF s.lf zs f (at_ + 1 + (unS (zs.getD at_ 0)).toNat) acc else acc)) := hres.out.trans (shapesF_step (by have := HN.out; omega))
      clear hres
      generalize zs.getD at_ 0 = x at *
      obtain ⟨hx1, hx2⟩ := hzx
      have hbw : b < wr.heap.size := by omega
      have hk := K64_of ⟨hx1, hx2⟩
      have HA : Hid (∀ W, Calls Tryz.prog 52 #[.int .u64 x] W fun e w' => e = .returned (.tuple #[.int .u64 (adV x), .int .i64 (adE x)]) ∧ W = w') := Lib.hid fun W => addr_any x W hx1 hx2
      have HU : Hid (∀ W, Calls Tryz.prog 124 #[.int .u64 x] W fun e w' => e = .returned (.tuple #[.agg #[.int .i64 (unS x), .int .i64 (unP x)], .int .i64 (unE x)]) ∧ Below W.heap.size W w') := Lib.hid fun W => unpack_any x W hx1 hx2
      have HUS : Hid (unE x = 0 → 0 ≤ unS x ∧ unS x ≤ 255) := unS_in
      generalize adV x = y at *
      generalize adE x = z at *
      generalize unS x = us at *
      generalize unP x = up at *
      generalize unE x = ue at *
      by_cases hz0 : z = 0
      · subst hz0
        have HS2 : Hid (R = match s.lf y with | none => acc | some sp => shapesF s.lf zs f (at_ + 1 + sp.1.toNat) (acc ++ [sp])) := HS.out.trans (if_pos rfl)
        clear HS HU HUS
        obtain ⟨nl, hnl, hlm⟩ := (A.out.tr hbr.out).lm
        have hlm3 := hlm.tr ((Below.refl _ _).alloc (Nat.le_refl _) (.cells #[.int .i64 0, .int .i64 0] 56))
        have HLM := Lib.hid hlm3
        obtain ⟨lw, cw, fw⟩ := (A.out.tr hbr.out).blk.get
        have c22 : wr.cell? ⟨p.b, 22, none⟩ = some (.map (some p.bl)) := cw 22
        have hne : ¬ p.b = wr.heap.size := by omega
        clear hlm hlm3 hnl cw fw
        have HF : Hid (s.lf y = none ∧ lfV s.lf y = none ∨ ∃ sp, s.lf y = some sp ∧ lfV s.lf y = some (.agg #[.int .i64 sp.1, .int .i64 sp.2]) ∧ 0 ≤ sp.1 ∧ sp.1 ≤ 255) := by
          have := HLR.out y
          unfold lfV
          rcases hq : s.lf y with _ | q
          · exact .inl ⟨rfl, rfl⟩
          · exact .inr ⟨q, rfl, rfl, this q hq⟩
        have hz := HSz.out (wr.alloc (.cells #[.int .i64 0, .int .i64 0] 56))
        rcases HF.out with ⟨g1, g2⟩ | ⟨⟨sz, pt⟩, g1, g2, g3, g4⟩
        · obtain rfl : R = acc := by rw [HS2.out, g1]
          go_wp2_with fail
          refine (HA.out _).mono ?_; rintro e ww ⟨rfl, rfl⟩
          go_wp2_with (at_lookup; refine wp_look_ok (n := nl) (b := p.bl) (k := 24) (f := lfV s.lf) _ rfl _ _ _ rfl 56 Tryz.underlying24 Tryz.underlying120 (.agg #[.int .i64 0, .int .i64 0]) hz rfl HLM.out y rfl hk ?_; rw [g2])
          go_ret
          refine ⟨⟨_, rfl, own_shapes (hown.out.tr ?_) ?_ ?_⟩, ?_⟩
          · (repeat (first | with_reducible exact Below.refl _ _ | with_reducible refine kp_alloc ?_ _ | with_reducible refine kp_drew ?_ | with_reducible refine below_drewN ?_ _ | with_reducible refine kp_set ?_ (by first | omega | (simp; done) | (simp; omega)) _ | with_reducible refine kp_tr ?_ (by with_reducible assumption)))
          · simp
          · omega
          · have := hbr.out
            (repeat (first | with_reducible exact Below.refl _ _ | with_reducible refine kp_alloc ?_ _ | with_reducible refine kp_drew ?_ | with_reducible refine below_drewN ?_ _ | with_reducible refine kp_set ?_ (by first | omega | (simp; done) | (simp; omega)) _ | with_reducible refine kp_tr ?_ (by with_reducible assumption)))
        · have HS3 : Hid (R = shapesF s.lf zs f (at_ + 1 + sz.toNat) (acc ++ [(sz, pt)])) := by show _ = _; rw [HS2.out, g1]
          dsimp only at g2 g3 g4
          obtain ⟨SZ, rfl⟩ := Int.eq_ofNat_of_zero_le g3
          have HOB : Hid (∀ g, (Value.slice va acc.length vc).ownBlock = some g → W.heap.size ≤ g) := hown.out.block
          have HOL : Hid (∀ g, (Value.slice va acc.length vc).ownBlock = some g → g < wr.heap.size) := hown.out.lt
          have hml : acc.length < 8000000000000 := by omega
          generalize hm : acc.length = m at *
          have HM := Lib.hid hm
          clear hm
          go_wp2_with fail
          refine (HA.out _).mono ?_; rintro e ww ⟨rfl, rfl⟩
          go_wp2_with
            (first
              | (at_lookup; refine wp_look_ok (n := nl) (b := p.bl) (k := 24) (f := lfV s.lf) _ rfl _ _ _ rfl 56 Tryz.underlying24 Tryz.underlying120 (.agg #[.int .i64 0, .int .i64 0]) hz rfl HLM.out y rfl hk ?_; rw [g2])
              | (at_builtin; refine app_shape _ rfl _ _ rfl W.heap.size (.slice va m vc) (.slice (some ⟨wr.heap.size + 1 + 1, 0, none⟩) 1 1) acc ((SZ : Int), pt) rfl rfl (OwnR.tr hown.out ?c3) ?c4 ?c0 ?c1 ?c2))
          case c4 => exact one_g (α := Int × Int) (en := encS) _ ((SZ : Int), pt) #[.int .i64 SZ, .int .i64 pt] rfl _ (by simp)
          case c3 => (repeat (first | with_reducible exact Below.refl _ _ | with_reducible refine kp_alloc ?_ _ | with_reducible refine kp_drew ?_ | with_reducible refine below_drewN ?_ _ | with_reducible refine kp_set ?_ (by first | omega | (simp; done) | (simp; omega)) _ | with_reducible refine kp_tr ?_ (by with_reducible assumption)))
          case c0 => have := HM.out; omega
          case c1 => simp; omega
          case c2 =>
          intro v4 w4 ho4 hg4 hat4
          have hb4 : Hid (Below W.heap.size W w4) := Below.trans (by have := hbr.out; (repeat (first | with_reducible exact Below.refl _ _ | with_reducible refine kp_alloc ?_ _ | with_reducible refine kp_drew ?_ | with_reducible refine below_drewN ?_ _ | with_reducible refine kp_set ?_ (by first | omega | (simp; done) | (simp; omega)) _ | with_reducible refine kp_tr ?_ (by with_reducible assumption)))) (below_ofO hg4 (by simp; omega) HOB.out)
          have K7 : Blk w4 wr.heap.size #[.int .i64 SZ, .int .i64 pt] 56 := blk_row (((Blk.new wr _ _).alloc _).alloc _) hg4 (fun e => by have := HOL.out _ e; omega)
          have HO4 := Lib.hid ho4
          have HL4 : Hid ((acc ++ [((SZ : Int), pt)]).length = m + 1) := by show _ = _; rw [List.length_append, HM.out]; rfl
          clear ho4 hg4 hat4 HOB HOL
          obtain ⟨l7, c7, f7⟩ := K7.get
          go_wp2_with fail
          exact ⟨⟨at_ + 1 + SZ, f, acc ++ [((SZ : Int), pt)], by omega, by congr 1; omega, by omega, by have := HL4.out; omega, by have := HL4.out; omega, HS3.out, HO4.out, hb4.out⟩, by simp [intOf]; omega⟩
      · have hzb : (z == 0) = false := beq_eq_false_iff_ne.mpr hz0
        have HS2 : Hid (R = if ue = 0 then shapesF s.lf zs f (at_ + 1 + us.toNat) acc else acc) := HS.out.trans (if_neg hz0)
        clear HS
        by_cases hu0 : ue = 0
        · subst hu0
          obtain ⟨u1, u2⟩ := HUS.out rfl
          obtain ⟨US, rfl⟩ := Int.eq_ofNat_of_zero_le u1
          have HS3 : Hid (R = shapesF s.lf zs f (at_ + 1 + US) acc) := HS2.out.trans (if_pos rfl)
          clear HS2 HUS
          have K0 : Blk (wr.alloc (.cells #[.int .i64 0, .int .i64 0] 56)) wr.heap.size #[.int .i64 0, .int .i64 0] 56 := Blk.new _ _ _
          go_wp2_with fail
          refine (HA.out _).mono ?_; rintro e ww ⟨rfl, rfl⟩
          go_wp2_with fail
          refine (HU.out _).mono ?_; rintro e w3 ⟨rfl, k3⟩
          have K3 := K0.tr k3
          obtain ⟨l3, c3, f3⟩ := K3.get
          have ho3 : OwnS w3 W.heap.size (.slice va acc.length vc) acc := hown.out.tr (by (repeat (first | with_reducible exact Below.refl _ _ | with_reducible refine kp_alloc ?_ _ | with_reducible refine kp_drew ?_ | with_reducible refine below_drewN ?_ _ | with_reducible refine kp_set ?_ (by first | omega | (simp; done) | (simp; omega)) _ | with_reducible refine kp_tr ?_ (by with_reducible assumption))))
          have hb3 : Hid (Below W.heap.size W w3) := Lib.hid (by have := hbr.out; (repeat (first | with_reducible exact Below.refl _ _ | with_reducible refine kp_alloc ?_ _ | with_reducible refine kp_drew ?_ | with_reducible refine below_drewN ?_ _ | with_reducible refine kp_set ?_ (by first | omega | (simp; done) | (simp; omega)) _ | with_reducible refine kp_tr ?_ (by with_reducible assumption))))
          go_wp2_with fail
          refine ⟨⟨at_ + 1 + US, f, acc, by omega, by congr 1; omega, by omega, by omega, by omega, HS3.out, ?_, ?_⟩, by simp [intOf]; omega⟩
          · show OwnR _ _ _ _ _ _ _
            exact hown.out.tr (by (repeat (first | with_reducible exact Below.refl _ _ | with_reducible refine kp_alloc ?_ _ | with_reducible refine kp_drew ?_ | with_reducible refine below_drewN ?_ _ | with_reducible refine kp_set ?_ (by first | omega | (simp; done) | (simp; omega)) _ | with_reducible refine kp_tr ?_ (by with_reducible assumption))))
          · show Below _ _ _
            have := hb3.out
            (repeat (first | with_reducible exact Below.refl _ _ | with_reducible refine kp_alloc ?_ _ | with_reducible refine kp_drew ?_ | with_reducible refine below_drewN ?_ _ | with_reducible refine kp_set ?_ (by first | omega | (simp; done) | (simp; omega)) _ | with_reducible refine kp_tr ?_ (by with_reducible assumption)))
        · have hub : (ue == 0) = false := beq_eq_false_iff_ne.mpr hu0
          obtain rfl : R = acc := HS2.out.trans (if_neg hu0)
          have K0 : Blk (wr.alloc (.cells #[.int .i64 0, .int .i64 0] 56)) wr.heap.size #[.int .i64 0, .int .i64 0] 56 := Blk.new _ _ _
          go_wp2_with fail
          refine (HA.out _).mono ?_; rintro e ww ⟨rfl, rfl⟩
          go_wp2_with fail
          refine (HU.out _).mono ?_; rintro e w3 ⟨rfl, k3⟩
          have K3 := K0.tr k3
          obtain ⟨l3, c3, f3⟩ := K3.get
          go_wp2_with fail
          go_ret
          refine ⟨⟨_, rfl, own_shapes (hown.out.tr ?_) ?_ ?_⟩, ?_⟩
          · (repeat (first | with_reducible exact Below.refl _ _ | with_reducible refine kp_alloc ?_ _ | with_reducible refine kp_drew ?_ | with_reducible refine below_drewN ?_ _ | with_reducible refine kp_set ?_ (by first | omega | (simp; done) | (simp; omega)) _ | with_reducible refine kp_tr ?_ (by with_reducible assumption)))
          · have := k3.size
            simp at this ⊢
            omega
          · omega
          · have := hbr.out
            (repeat (first | with_reducible exact Below.refl _ _ | with_reducible refine kp_alloc ?_ _ | with_reducible refine kp_drew ?_ | with_reducible refine below_drewN ?_ _ | with_reducible refine kp_set ?_ (by first | omega | (simp; done) | (simp; omega)) _ | with_reducible refine kp_tr ?_ (by with_reducible assumption)))
    · have HS2 : Hid (R = acc) := by
        rcases f with _ | f
        · exact hres.out
        · exact hres.out.trans (shapesF_end (by have := HN.out; omega))
      obtain rfl : R = acc := HS2.out
      go_wp2_with fail
      go_ret
      refine ⟨⟨_, rfl, own_shapes hown.out ?_ ?_⟩, ?_⟩
      · omega
      · omega
      · have := hbr.out
        (repeat (first | with_reducible exact Below.refl _ _ | with_reducible refine kp_alloc ?_ _ | with_reducible refine kp_drew ?_ | with_reducible refine below_drewN ?_ _ | with_reducible refine kp_set ?_ (by first | omega | (simp; done) | (simp; omega)) _ | with_reducible refine kp_tr ?_ (by with_reducible assumption)))
end Go.Proofs.YtpgjploaliefdaaGreat.ck
