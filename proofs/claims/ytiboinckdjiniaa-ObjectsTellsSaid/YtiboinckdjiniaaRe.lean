/- The reference of layer 6: its walk of words from which some were copied. No conditions. -/
import Derived.Test.YtiboinckdjiniaaRb
import Derived.Test.YtiboinckdjiniaaSz
import Derived.Deep.RegionHeld3
namespace Go.Proofs.Ytiboinckdjiniaa.ob
open Go.RowKit Go.Proofs.Ytiboinckdjiniaa.hd
set_option linter.unusedVariables false
set_option linter.unusedSimpArgs false
theorem obs_four {W : World} {B n : Nat} {v : Value} {acc : List Ob} (h : ObsAt W B v acc) (hlt : ∀ j, v.ownBlock = some j → j < n) (x y z u : Value) (i j k l : Nat) : ObsAt ((((W.setCell ⟨n, i, none⟩ x).setCell ⟨n, j, none⟩ y).setCell ⟨n, k, none⟩ z).setCell ⟨n, l, none⟩ u) B v acc := by
  have g1 : W.grownBy (W.setCell ⟨n, i, none⟩ x) (some n) := grown_set (gr_refl _ _) _ (.inr rfl) _
  have g2 : W.grownBy ((W.setCell ⟨n, i, none⟩ x).setCell ⟨n, j, none⟩ y) (some n) := grown_set g1 _ (.inr rfl) _
  have g3 : W.grownBy (((W.setCell ⟨n, i, none⟩ x).setCell ⟨n, j, none⟩ y).setCell ⟨n, k, none⟩ z) (some n) := grown_set g2 _ (.inr rfl) _
  have g4 : W.grownBy ((((W.setCell ⟨n, i, none⟩ x).setCell ⟨n, j, none⟩ y).setCell ⟨n, k, none⟩ z).setCell ⟨n, l, none⟩ u) (some n) := grown_set g3 _ (.inr rfl) _
  refine obs_row h g4 ?_
  rcases hq : v.ownBlock with _ | q
  · exact .inl rfl
  · refine .inr (fun e => ?_)
    cases e
    have := hlt _ hq
    omega
set_option maxRecDepth 100000 in
set_option maxHeartbeats 16000000 in
theorem refwalk_old (b off len cap : Nat) (ad : Option Addr) (zs : List Int) (had : 0 < len → ad = some ⟨b, off, none⟩) (hlc : len ≤ cap) (hcap : cap < 9223372036854775808) (hz : ∀ i, 0 ≤ zs.getD i 0 ∧ zs.getD i 0 < 18446744073709551616)
    (sb so n scap : Nat) (sad : Option Addr) (ss : List (Int × Int)) (shad : 0 < n → sad = some ⟨sb, so, none⟩) (hn : n < 1000000) (w : World) (hW : WordsAt w b off len zs) (hS : ShapesAt w sb so n ss) (hlen : len < 1000000) :
    Calls Try.prog 29 #[.slice ad len cap, .slice sad n scap, .bool true] w fun e W' => WalkedAs w.heap.size (oldRes n (walkF (bgO n ss) zs len (len + 1) 0 0 [])) e W' ∧ Below w.heap.size w W' := by
  have HX := Lib.hid hW
  have HSH := Lib.hid hS
  have HZ := Lib.hid hz
  have HA := Lib.hid had
  have HSA := Lib.hid shad
  have HCAP := Lib.hid hcap
  clear hW hz had hcap hS shad
  go_enter Try.func29, Try.ntmps29
  go_wp2_with fail
  go_loopw [8, 9, 10] (fun v tk i wr => ∃ (k pos f : Nat) (acc : List Ob), tk = .int .i64 (k : Int) ∧ i = .int .i64 pos ∧ (pos ≤ len ∧ k ≤ n) ∧ acc.length ≤ pos ∧ len - pos < f ∧ Hid (walkF (bgO n ss) zs len (len + 1) 0 0 [] = walkF (bgO n ss) zs len f k pos acc) ∧ Hid (ObsAt wr w.heap.size v acc) ∧ Hid (Below w.heap.size w wr)) (fun _ _ i _ => len - (intOf i).toNat)
  case atStart => exact ⟨0, 0, len + 1, [], rfl, rfl, by omega, Nat.le_refl _, by omega, rfl, World.ownsRow_nil _ _ _ _, Below.refl _ _⟩
  case round =>
    obtain ⟨k, pos, f, acc, rfl, rfl, ⟨hpl, hkn⟩, hal, hf, hres, hown, hbw⟩ := hrel
    by_cases hlt : pos < len
    · obtain rfl := HA.out (by omega)
      obtain ⟨f, rfl⟩ : ∃ f', f = f' + 1 := ⟨f - 1, by omega⟩
      have hres2 := Lib.hid (walkF_step (bg := bgO n ss) (zs := zs) (f := f) (k := k) (acc := acc) hlt)
      have hbl : b < w.heap.size := HX.out.lt (by omega)
      have HXr := Lib.hid (HX.out.block (hbw.out.block b hbl))
      have hxk := HXr.out.at pos hlt
      have hbr : b < wr.heap.size := HXr.out.lt (by omega)
      have hb0 : b ≠ wr.heap.size := by omega
      have hzk := HZ.out pos
      have hws0 := hbw.out.size
      generalize zs.getD pos 0 = x at *
      by_cases hE0 : adE x = 0
      · by_cases hkl : k < n
        · obtain rfl := HSA.out (by omega)
          have hsbl : sb < w.heap.size := HSH.out.lt (by omega)
          obtain ⟨s0, s1⟩ := (HSH.out.block (hbw.out.block sb hsbl)).at k hkl
          have hsb0 : sb ≠ wr.heap.size := by omega
          have hsbr : sb < wr.heap.size := by omega
          have HN : Hid (bgO n ss k pos x = if k < n ∧ rightB (ss.getD k (0, 0)).1 (ss.getD k (0, 0)).2 = true then some (⟨pos, (ss.getD k (0, 0)).1, (ss.getD k (0, 0)).2, true, adV x⟩, k + 1) else none) := by show bgO n ss k pos x = _; unfold bgO; rw [if_pos hE0]
          generalize (ss.getD k (0, 0)).1 = sI at *
          generalize (ss.getD k (0, 0)).2 = p at *
          have hknb : ((k : Int) == (n : Int)) = false := beq_eq_false_iff_ne.mpr (by omega)
          have hE2 : (adE x == 0) = true := by simp [hE0]
          go_wp2_with fail
          refine (addrref_any x _ hzk.1 hzk.2).mono ?_; rintro e ww ⟨rfl, rfl⟩
          go_wp2_with fail
          refine (rrref_any sI p _).mono ?_; rintro e w1 ⟨rfl, k1⟩
          have Ko : Blk w1 wr.heap.size #[.int .i64 pos, .int .i64 0, .int .i64 0, .bool false, .int .u64 0] 53 := Blk.tr (by (repeat (first | with_reducible assumption | exact Blk.mk rfl | exact Blk.mk (by simp) | refine Blk.drew ?_ | refine Blk.alloc ?_ _ | refine Blk.tr ?_ (by with_reducible assumption)))) k1
          have hk1 : Below wr.heap.size wr w1 := by (repeat (first | with_reducible exact Below.refl _ _ | with_reducible refine kp_alloc ?_ _ | with_reducible refine kp_drew ?_ | with_reducible refine kp_set ?_ (by first | omega | (simp; done) | (simp; omega)) _ | with_reducible refine kp_tr ?_ (by with_reducible assumption)))
          rcases hrb : rightB sI p with _ | _
          · have hres3 : Hid (walkF (bgO n ss) zs len (len + 1) 0 0 [] = .err 3 k) := by show _ = _; rw [hres.out, hres2.out, HN.out, hrb]; simp
            go_wp2_with fail
            go_ret2
            refine ⟨by rw [hres3.out]; rfl, ?_⟩
            have := hbw.out
            exact kp_tr this hk1
          · obtain ⟨hs0, hs1, _, _⟩ := rightB_t hrb
            obtain ⟨S, rfl⟩ := Int.eq_ofNat_of_zero_le hs0
            have HN2 : Hid (bgO n ss k pos x = some (⟨pos, S, p, true, adV x⟩, k + 1)) := by show _ = _; rw [HN.out, if_pos ⟨hkl, hrb⟩]
            have t0 := cell_tr hk1 s0
            have t1 := cell_tr hk1 s1
            have hsw1 : sb < w1.heap.size := by have := hk1.size; omega
            obtain ⟨lo, co, fo⟩ := Ko.get
            go_upto_region 18 with (fail)
            have KX : Blk ((((w1.setCell ⟨wr.heap.size, 3, none⟩ (.bool true)).setCell ⟨wr.heap.size, 4, none⟩ (.int .u64 (adV x))).setCell ⟨wr.heap.size, 1, none⟩ (.int .i64 (S : Int))).setCell ⟨wr.heap.size, 2, none⟩ (.int .i64 p)) wr.heap.size #[.int .i64 pos, .int .i64 (S : Int), .int .i64 p, .bool true, .int .u64 (adV x)] 53 := (((Ko.set 3 (.bool true)).set 4 (.int .u64 (adV x))).set 1 (.int .i64 (S : Int))).set 2 (.int .i64 p)
            have HBX : Hid (Below w.heap.size w ((((w1.setCell ⟨wr.heap.size, 3, none⟩ (.bool true)).setCell ⟨wr.heap.size, 4, none⟩ (.int .u64 (adV x))).setCell ⟨wr.heap.size, 1, none⟩ (.int .i64 (S : Int))).setCell ⟨wr.heap.size, 2, none⟩ (.int .i64 p))) := by
              have h0 := hbw.out
              have h1 : Below w.heap.size w w1 := kp_tr h0 hk1
              exact kp_set (kp_set (kp_set (kp_set h1 (by exact hws0) _) (by exact hws0) _) (by exact hws0) _) (by exact hws0) _
            have HVX : Hid (ObsAt ((((w1.setCell ⟨wr.heap.size, 3, none⟩ (.bool true)).setCell ⟨wr.heap.size, 4, none⟩ (.int .u64 (adV x))).setCell ⟨wr.heap.size, 1, none⟩ (.int .i64 (S : Int))).setCell ⟨wr.heap.size, 2, none⟩ (.int .i64 p)) w.heap.size u8 acc) := obs_four (obs_tr hown.out hk1) (obs_lt hown.out (Nat.le_refl _)) _ _ _ _ _ _ _ _
            have hlt8 : Hid (∀ j, u8.ownBlock = some j → j < wr.heap.size) := obs_lt hown.out (Nat.le_refl _)
            clear hown hbw Ko k1 lo co fo hk1 hxk hb0 hbr HXr t0 t1 s0 s1 hsw1 hsb0 hsbr HN hE2 hknb
            generalize ((((w1.setCell ⟨wr.heap.size, 3, none⟩ (.bool true)).setCell ⟨wr.heap.size, 4, none⟩ (.int .u64 (adV x))).setCell ⟨wr.heap.size, 1, none⟩ (.int .i64 (S : Int))).setCell ⟨wr.heap.size, 2, none⟩ (.int .i64 p)) = X at *
            generalize wr.heap.size = oB at *
            generalize adV x = tt at *
            have HC5 := Lib.hid (show _ ∧ _ ∧ _ ∧ _ ∧ _ from ⟨(KX.get.2.1 0), (KX.get.2.1 1), (KX.get.2.1 2), (KX.get.2.1 3), (KX.get.2.1 4)⟩)
            have hbX : b < X.heap.size := Nat.lt_of_lt_of_le hbl HBX.out.size
            have HWX := Lib.hid (HX.out.block (HBX.out.block b hbl))
            have hoX := KX.lt
            obtain ⟨lo, co, fo⟩ := KX.get
            by_cases hsh : len < pos + 1 + S
            · have hshI : (len : Int) < (pos : Int) + 1 + (S : Int) := by omega
              have hres3 : Hid (walkF (bgO n ss) zs len (len + 1) 0 0 [] = .err 2 (k + 1)) := by show _ = _; rw [hres.out, hres2.out, HN2.out]; simp [hsh]
              go_wp2_with fail
              go_ret2
              refine ⟨by rw [hres3.out]; rfl, ?_⟩
              have := HBX.out
              (repeat (first | with_reducible exact Below.refl _ _ | with_reducible refine kp_alloc ?_ _ | with_reducible refine kp_drew ?_ | with_reducible refine kp_set ?_ (by first | omega | (simp; done) | (simp; omega)) _ | with_reducible refine kp_tr ?_ (by with_reducible assumption)))
            · have hshI : ¬ (len : Int) < (pos : Int) + 1 + (S : Int) := by omega
              have hS1000 : S < 1000 := by omega
              have i1 : (0 : Int) ≤ (pos : Int) + 1 := by omega
              have i2 : (pos : Int) + 1 ≤ (pos : Int) + 1 + (S : Int) := by omega
              have i3 : (pos : Int) + 1 + (S : Int) ≤ (cap : Int) := by omega
              have i4 : (pos : Int) + 1 ≤ (cap : Int) := by omega
              have n1 : pos + 1 ≤ pos + 1 + S := by omega
              have n2 : pos + 1 + S ≤ cap := by omega
              have HWX2 : Hid (WordsAt X b off (pos + 1 + S) zs) := words_of fun i hi => HWX.out.at i (by omega)
              by_cases hcp : cap = pos + 1
              · have hS0 : S = 0 := by omega
                rcases hso : slotsB ⟨pos, S, p, true, tt⟩ zs S with _ | _
                · have hres3 : Hid (walkF (bgO n ss) zs len (len + 1) 0 0 [] = .err 3 (k + 1)) := by show _ = _; rw [hres.out, hres2.out, HN2.out]; simp [hsh, hso]
                  go_upto_region 20 with (fail)
                  have jQ : IntKind.i64.wrap ((pos : Int) + 1) = (cap : Int) := by rw [wr_i64 _ (by omega)]; omega
                  have jR : IntKind.i64.wrap ((cap : Int) + (S : Int)) = (cap : Int) := by rw [wr_i64 _ (by omega)]; omega
                  have HR : Hid (cap = pos + 1 + S) := by show _ = _; omega
                  have HS0 := Lib.hid hS0
                  clear i1 i2 i3 i4 n1 n2 hcp hS0
                  go_region_held3 (fun w' => w'.cell? ⟨oB, 0, none⟩ = some (.int .i64 pos) ∧ w'.cell? ⟨oB, 1, none⟩ = some (.int .i64 S) ∧ w'.cell? ⟨oB, 2, none⟩ = some (.int .i64 p) ∧ w'.cell? ⟨oB, 3, none⟩ = some (.bool true) ∧ w'.cell? ⟨oB, 4, none⟩ = some (.int .u64 tt))
                    (first | (refine s5_tr ?_ HC5.out; (repeat (first | with_reducible exact Below.refl _ _ | with_reducible refine kp_alloc ?_ _ | with_reducible refine kp_drew ?_ | with_reducible refine kp_set ?_ (by first | omega | (simp; done) | (simp; omega)) _ | with_reducible refine kp_tr ?_ (by with_reducible assumption)))))
                    (first | (go_at_call 39; refine (slots_zero S 0 pos (some ⟨b, off, none⟩) p tt true zs _ HS0.out HZ.out).mono ?_; rintro e w6 ⟨rfl, k6⟩))
                  have B6 : Hid (Below w.heap.size w w6) := by
                    have := HBX.out
                    show Below _ _ _
                    (repeat (first | with_reducible exact Below.refl _ _ | with_reducible refine kp_alloc ?_ _ | with_reducible refine kp_drew ?_ | with_reducible refine kp_set ?_ (by first | omega | (simp; done) | (simp; omega)) _ | with_reducible refine kp_tr ?_ (by with_reducible assumption)))
                  clear k6
                  go_wp2_with fail
                  go_ret2
                  exact ⟨by rw [hres3.out]; rfl, B6.out⟩
                · have hres3 : Hid (walkF (bgO n ss) zs len (len + 1) 0 0 [] = walkF (bgO n ss) zs len f (k + 1) (pos + 1 + S) (acc ++ [⟨pos, S, p, true, tt⟩])) := by show _ = _; rw [hres.out, hres2.out, HN2.out]; simp [hsh, hso]
                  go_upto_region 20 with (fail)
                  have jQ : IntKind.i64.wrap ((pos : Int) + 1) = (cap : Int) := by rw [wr_i64 _ (by omega)]; omega
                  have jR : IntKind.i64.wrap ((cap : Int) + (S : Int)) = (cap : Int) := by rw [wr_i64 _ (by omega)]; omega
                  have HR : Hid (cap = pos + 1 + S) := by show _ = _; omega
                  have HS0 := Lib.hid hS0
                  clear i1 i2 i3 i4 n1 n2 hcp hS0
                  go_region_held3 (fun w' => w'.cell? ⟨oB, 0, none⟩ = some (.int .i64 pos) ∧ w'.cell? ⟨oB, 1, none⟩ = some (.int .i64 S) ∧ w'.cell? ⟨oB, 2, none⟩ = some (.int .i64 p) ∧ w'.cell? ⟨oB, 3, none⟩ = some (.bool true) ∧ w'.cell? ⟨oB, 4, none⟩ = some (.int .u64 tt))
                    (first | (refine s5_tr ?_ HC5.out; (repeat (first | with_reducible exact Below.refl _ _ | with_reducible refine kp_alloc ?_ _ | with_reducible refine kp_drew ?_ | with_reducible refine kp_set ?_ (by first | omega | (simp; done) | (simp; omega)) _ | with_reducible refine kp_tr ?_ (by with_reducible assumption)))))
                    (first | (go_at_call 39; refine (slots_zero S 0 pos (some ⟨b, off, none⟩) p tt true zs _ HS0.out HZ.out).mono ?_; rintro e w6 ⟨rfl, k6⟩))
                  have k6' : Below X.heap.size X w6 := by (repeat (first | with_reducible exact Below.refl _ _ | with_reducible refine kp_alloc ?_ _ | with_reducible refine kp_drew ?_ | with_reducible refine kp_set ?_ (by first | omega | (simp; done) | (simp; omega)) _ | with_reducible refine kp_tr ?_ (by with_reducible assumption)))
                  have B6 : Hid (Below w.heap.size w w6) := kp_tr HBX.out k6'
                  have HV6 := Lib.hid (obs_tr HVX.out k6')
                  have K6 := KX.tr k6'
                  have h86 : Hid (∀ j, u8.ownBlock = some j → j < w6.heap.size) := obs_lt HV6.out (Nat.le_refl _)
                  have hs6 := B6.out.size
                  clear k6 k6' lo co fo HC5
                  obtain ⟨lo, co, fo⟩ := K6.get
                  have hsrc : ObjsIn (w6.alloc (.cells #[.int .i64 (pos : Int), .int .i64 (S : Int), .int .i64 p, .bool true, .int .u64 tt] 53)) (.slice (some ⟨w6.heap.size, 0, none⟩) 1 1) [⟨(pos : Int), S, p, true, tt⟩] := objs_lit _ [⟨(pos : Int), S, p, true, tt⟩] w6.heap.size (Blk.new _ _ _) (by simp)
                  have HSRC := Lib.hid hsrc
                  clear hsrc
                  go_wp2_with (at_builtin; refine app_objs _ rfl _ _ rfl w.heap.size u8 (.slice (some ⟨w6.heap.size, 0, none⟩) 1 1) acc [⟨(pos : Int), S, p, true, tt⟩] rfl rfl (obs_tr HV6.out ((Below.refl _ _).alloc (Nat.le_refl _) _)) HSRC.out ?c0 ?c1 ?c2)
                  case c0 => simp; omega
                  case c1 => exact le_alloc hs6
                  case c2 =>
                  intro v7 w7 o7 hg7 hat7
                  have B7 : Hid (Below w.heap.size w w7) := obs_own (B6.out.alloc hs6 _) HV6.out hg7
                  have O7 := Lib.hid o7
                  have K7 := blk_row (K6.alloc (.cells #[.int .i64 (pos : Int), .int .i64 (S : Int), .int .i64 p, .bool true, .int .u64 tt] 53)) hg7 (fun e => by have := hlt8.out _ e; omega)
                  clear lo co fo K6 o7 hg7 hat7 HV6 HSRC
                  obtain ⟨lo, co, fo⟩ := K7.get
                  go_wp2_with fail
                  refine ⟨⟨(k + 1), cap, f, acc ++ [(⟨(pos : Int), (S : Int), p, true, tt⟩ : Ob)], by first | rfl | go_num, by first | rfl | go_num, by have := HR.out; omega, by have := HR.out; simp; omega, by have := HR.out; omega, ?_, O7.out, B7.out⟩, ?_⟩
                  · show _ = _
                    rw [HR.out]
                    exact hres3.out
                  · have := HR.out
                    simp [intOf]; omega
              · have hcp1 : ¬ cap - (pos + 1) = 0 := by omega
                rcases hso : slotsB ⟨pos, S, p, true, tt⟩ zs S with _ | _
                · have hres3 : Hid (walkF (bgO n ss) zs len (len + 1) 0 0 [] = .err 3 (k + 1)) := by show _ = _; rw [hres.out, hres2.out, HN2.out]; simp [hsh, hso]
                  go_upto_region 20 with (fail)
                  obtain ⟨Q, hQ⟩ : ∃ Q, Q = pos + 1 := ⟨_, rfl⟩
                  obtain ⟨R, hR⟩ : ∃ R, R = pos + 1 + S := ⟨_, rfl⟩
                  have jQ : IntKind.i64.wrap ((pos : Int) + 1) = (Q : Int) := by rw [hQ]; rw [wr_i64 _ (by omega)]; omega
                  have jR : IntKind.i64.wrap ((Q : Int) + (S : Int)) = (R : Int) := by rw [hQ, hR]; rw [wr_i64 _ (by omega)]; omega
                  have qR : (R : Int) ≤ (cap : Int) := by omega
                  have qR2 : R ≤ cap := by omega
                  have qQ : (Q : Int) ≤ (R : Int) := by omega
                  have qQ2 : Q ≤ R := by omega
                  have qS : R - Q = S := by omega
                  have qC : ¬ cap = Q := by omega
                  have HQ := Lib.hid hQ
                  have HR := Lib.hid hR
                  clear hQ hR i1 i2 i3 i4 n1 n2 hcp hcp1
                  go_region_held3 (fun w' => w'.cell? ⟨oB, 0, none⟩ = some (.int .i64 pos) ∧ w'.cell? ⟨oB, 1, none⟩ = some (.int .i64 S) ∧ w'.cell? ⟨oB, 2, none⟩ = some (.int .i64 p) ∧ w'.cell? ⟨oB, 3, none⟩ = some (.bool true) ∧ w'.cell? ⟨oB, 4, none⟩ = some (.int .u64 tt))
                    (first | (refine s5_tr ?_ HC5.out; (repeat (first | with_reducible exact Below.refl _ _ | with_reducible refine kp_alloc ?_ _ | with_reducible refine kp_drew ?_ | with_reducible refine kp_set ?_ (by first | omega | (simp; done) | (simp; omega)) _ | with_reducible refine kp_tr ?_ (by with_reducible assumption)))))
                    (first | (go_at_call 39; refine (slots_told b off S (cap - Q) pos (some ⟨b, off + Q, none⟩) p tt true zs _ hS1000 ?_ ?_ HZ.out).mono ?_; (intro h0; rw [HQ.out]); (intro h0; refine WordsAt.block HWX2.out ?_; refine Below.block (B := X.heap.size) ?_ b hbX; (repeat (first | with_reducible exact Below.refl _ _ | with_reducible refine kp_alloc ?_ _ | with_reducible refine kp_drew ?_ | with_reducible refine kp_set ?_ (by first | omega | (simp; done) | (simp; omega)) _ | with_reducible refine kp_tr ?_ (by with_reducible assumption)))); rintro e w6 ⟨rfl, k6⟩))
                  have B6 : Hid (Below w.heap.size w w6) := by
                    have := HBX.out
                    show Below _ _ _
                    (repeat (first | with_reducible exact Below.refl _ _ | with_reducible refine kp_alloc ?_ _ | with_reducible refine kp_drew ?_ | with_reducible refine kp_set ?_ (by first | omega | (simp; done) | (simp; omega)) _ | with_reducible refine kp_tr ?_ (by with_reducible assumption)))
                  clear k6
                  go_wp2_with fail
                  go_ret2
                  exact ⟨by rw [hres3.out]; rfl, B6.out⟩
                · have hres3 : Hid (walkF (bgO n ss) zs len (len + 1) 0 0 [] = walkF (bgO n ss) zs len f (k + 1) (pos + 1 + S) (acc ++ [⟨pos, S, p, true, tt⟩])) := by show _ = _; rw [hres.out, hres2.out, HN2.out]; simp [hsh, hso]
                  go_upto_region 20 with (fail)
                  obtain ⟨Q, hQ⟩ : ∃ Q, Q = pos + 1 := ⟨_, rfl⟩
                  obtain ⟨R, hR⟩ : ∃ R, R = pos + 1 + S := ⟨_, rfl⟩
                  have jQ : IntKind.i64.wrap ((pos : Int) + 1) = (Q : Int) := by rw [hQ]; rw [wr_i64 _ (by omega)]; omega
                  have jR : IntKind.i64.wrap ((Q : Int) + (S : Int)) = (R : Int) := by rw [hQ, hR]; rw [wr_i64 _ (by omega)]; omega
                  have qR : (R : Int) ≤ (cap : Int) := by omega
                  have qR2 : R ≤ cap := by omega
                  have qQ : (Q : Int) ≤ (R : Int) := by omega
                  have qQ2 : Q ≤ R := by omega
                  have qS : R - Q = S := by omega
                  have qC : ¬ cap = Q := by omega
                  have HQ := Lib.hid hQ
                  have HR := Lib.hid hR
                  clear hQ hR i1 i2 i3 i4 n1 n2 hcp hcp1
                  go_region_held3 (fun w' => w'.cell? ⟨oB, 0, none⟩ = some (.int .i64 pos) ∧ w'.cell? ⟨oB, 1, none⟩ = some (.int .i64 S) ∧ w'.cell? ⟨oB, 2, none⟩ = some (.int .i64 p) ∧ w'.cell? ⟨oB, 3, none⟩ = some (.bool true) ∧ w'.cell? ⟨oB, 4, none⟩ = some (.int .u64 tt))
                    (first | (refine s5_tr ?_ HC5.out; (repeat (first | with_reducible exact Below.refl _ _ | with_reducible refine kp_alloc ?_ _ | with_reducible refine kp_drew ?_ | with_reducible refine kp_set ?_ (by first | omega | (simp; done) | (simp; omega)) _ | with_reducible refine kp_tr ?_ (by with_reducible assumption)))))
                    (first | (go_at_call 39; refine (slots_told b off S (cap - Q) pos (some ⟨b, off + Q, none⟩) p tt true zs _ hS1000 ?_ ?_ HZ.out).mono ?_; (intro h0; rw [HQ.out]); (intro h0; refine WordsAt.block HWX2.out ?_; refine Below.block (B := X.heap.size) ?_ b hbX; (repeat (first | with_reducible exact Below.refl _ _ | with_reducible refine kp_alloc ?_ _ | with_reducible refine kp_drew ?_ | with_reducible refine kp_set ?_ (by first | omega | (simp; done) | (simp; omega)) _ | with_reducible refine kp_tr ?_ (by with_reducible assumption)))); rintro e w6 ⟨rfl, k6⟩))
                  have k6' : Below X.heap.size X w6 := by (repeat (first | with_reducible exact Below.refl _ _ | with_reducible refine kp_alloc ?_ _ | with_reducible refine kp_drew ?_ | with_reducible refine kp_set ?_ (by first | omega | (simp; done) | (simp; omega)) _ | with_reducible refine kp_tr ?_ (by with_reducible assumption)))
                  have B6 : Hid (Below w.heap.size w w6) := kp_tr HBX.out k6'
                  have HV6 := Lib.hid (obs_tr HVX.out k6')
                  have K6 := KX.tr k6'
                  have h86 : Hid (∀ j, u8.ownBlock = some j → j < w6.heap.size) := obs_lt HV6.out (Nat.le_refl _)
                  have hs6 := B6.out.size
                  clear k6 k6' lo co fo HC5
                  obtain ⟨lo, co, fo⟩ := K6.get
                  have hsrc : ObjsIn (w6.alloc (.cells #[.int .i64 (pos : Int), .int .i64 (S : Int), .int .i64 p, .bool true, .int .u64 tt] 53)) (.slice (some ⟨w6.heap.size, 0, none⟩) 1 1) [⟨(pos : Int), S, p, true, tt⟩] := objs_lit _ [⟨(pos : Int), S, p, true, tt⟩] w6.heap.size (Blk.new _ _ _) (by simp)
                  have HSRC := Lib.hid hsrc
                  clear hsrc
                  go_wp2_with (at_builtin; refine app_objs _ rfl _ _ rfl w.heap.size u8 (.slice (some ⟨w6.heap.size, 0, none⟩) 1 1) acc [⟨(pos : Int), S, p, true, tt⟩] rfl rfl (obs_tr HV6.out ((Below.refl _ _).alloc (Nat.le_refl _) _)) HSRC.out ?c0 ?c1 ?c2)
                  case c0 => simp; omega
                  case c1 => exact le_alloc hs6
                  case c2 =>
                  intro v7 w7 o7 hg7 hat7
                  have B7 : Hid (Below w.heap.size w w7) := obs_own (B6.out.alloc hs6 _) HV6.out hg7
                  have O7 := Lib.hid o7
                  have K7 := blk_row (K6.alloc (.cells #[.int .i64 (pos : Int), .int .i64 (S : Int), .int .i64 p, .bool true, .int .u64 tt] 53)) hg7 (fun e => by have := hlt8.out _ e; omega)
                  clear lo co fo K6 o7 hg7 hat7 HV6 HSRC
                  obtain ⟨lo, co, fo⟩ := K7.get
                  go_wp2_with fail
                  refine ⟨⟨(k + 1), R, f, acc ++ [(⟨(pos : Int), (S : Int), p, true, tt⟩ : Ob)], by first | rfl | go_num, by first | rfl | go_num, by have := HR.out; omega, by have := HR.out; simp; omega, by have := HR.out; omega, ?_, O7.out, B7.out⟩, ?_⟩
                  · show _ = _
                    rw [HR.out]
                    exact hres3.out
                  · have := HR.out
                    simp [intOf]; omega
        · obtain rfl : k = n := by omega
          have HN : Hid (bgO k ss k pos x = none) := by show _ = _; unfold bgO; rw [if_pos hE0, if_neg (by omega)]
          have hres3 : Hid (walkF (bgO k ss) zs len (len + 1) 0 0 [] = .err 3 k) := by show _ = _; rw [hres.out, hres2.out, HN.out]
          have hE2 : (adE x == 0) = true := by simp [hE0]
          go_wp2_with fail
          refine (addrref_any x _ hzk.1 hzk.2).mono ?_; rintro e ww ⟨rfl, rfl⟩
          go_wp2_with fail
          go_ret2
          refine ⟨by rw [hres3.out]; rfl, ?_⟩
          have := hbw.out
          (repeat (first | with_reducible exact Below.refl _ _ | with_reducible refine kp_alloc ?_ _ | with_reducible refine kp_drew ?_ | with_reducible refine kp_set ?_ (by first | omega | (simp; done) | (simp; omega)) _ | with_reducible refine kp_tr ?_ (by with_reducible assumption)))
      · have hE2 : (adE x == 0) = false := by simp [hE0]
        have HN : Hid (bgO n ss k pos x = if unOk x then some (⟨pos, unS x, unP x, false, 0⟩, k) else none) := by show bgO n ss k pos x = _; unfold bgO; rw [if_neg hE0]; rfl
        go_wp2_with fail
        refine (addrref_any x _ hzk.1 hzk.2).mono ?_; rintro e ww ⟨rfl, rfl⟩
        go_wp2_with fail
        rcases hu : unOk x with _ | _
        · have hE3 : unE x = 3 := by simp [unE, hu]
          have hres3 : Hid (walkF (bgO n ss) zs len (len + 1) 0 0 [] = .err 3 k) := by show _ = _; rw [hres.out, hres2.out, HN.out, hu]; rfl
          refine (unpackref_any x _ hzk.1 hzk.2).mono ?_; rintro e w1 ⟨rfl, k1⟩
          rw [hE3]
          go_wp2_with fail
          go_ret2
          refine ⟨by rw [hres3.out]; rfl, ?_⟩
          have := hbw.out
          (repeat (first | with_reducible exact Below.refl _ _ | with_reducible refine kp_alloc ?_ _ | with_reducible refine kp_drew ?_ | with_reducible refine kp_set ?_ (by first | omega | (simp; done) | (simp; omega)) _ | with_reducible refine kp_tr ?_ (by with_reducible assumption)))
        · have hE3 : unE x = 0 := by simp [unE, hu]
          obtain ⟨hs0, hs1⟩ := unS_small hu
          have HN2 : Hid (bgO n ss k pos x = some (⟨pos, unS x, unP x, false, 0⟩, k)) := by show _ = _; rw [HN.out, hu]; rfl
          refine (unpackref_any x _ hzk.1 hzk.2).mono ?_; rintro e w1 ⟨rfl, k1⟩
          rw [hE3]
          have Ko : Blk w1 wr.heap.size #[.int .i64 pos, .int .i64 0, .int .i64 0, .bool false, .int .u64 0] 53 := Blk.tr (by (repeat (first | with_reducible assumption | exact Blk.mk rfl | exact Blk.mk (by simp) | refine Blk.drew ?_ | refine Blk.alloc ?_ _ | refine Blk.tr ?_ (by with_reducible assumption)))) k1
          generalize unS x = sI at *
          obtain ⟨S, rfl⟩ := Int.eq_ofNat_of_zero_le hs0
          generalize unP x = p at *
          obtain ⟨lo, co, fo⟩ := Ko.get
          have hk1 : Below wr.heap.size wr w1 := by (repeat (first | with_reducible exact Below.refl _ _ | with_reducible refine kp_alloc ?_ _ | with_reducible refine kp_drew ?_ | with_reducible refine kp_set ?_ (by first | omega | (simp; done) | (simp; omega)) _ | with_reducible refine kp_tr ?_ (by with_reducible assumption)))
          go_upto_region 18 with (fail)
          have KX : Blk (((w1.setCell ⟨wr.heap.size, 1, none⟩ (.int .i64 (S : Int))).setCell ⟨wr.heap.size, 2, none⟩ (.int .i64 p)).alloc (.cells #[.int .i64 (S : Int), .int .i64 p] 28)) wr.heap.size #[.int .i64 pos, .int .i64 (S : Int), .int .i64 p, .bool false, .int .u64 0] 53 := ((Ko.set 1 (.int .i64 (S : Int))).set 2 (.int .i64 p)).alloc _
          have HBX : Hid (Below w.heap.size w (((w1.setCell ⟨wr.heap.size, 1, none⟩ (.int .i64 (S : Int))).setCell ⟨wr.heap.size, 2, none⟩ (.int .i64 p)).alloc (.cells #[.int .i64 (S : Int), .int .i64 p] 28))) := by
            have h0 := hbw.out
            have h1 : Below w.heap.size w w1 := kp_tr h0 hk1
            exact kp_alloc (kp_set (kp_set h1 (by exact hws0) _) (by exact hws0) _) _
          have HVX : Hid (ObsAt (((w1.setCell ⟨wr.heap.size, 1, none⟩ (.int .i64 (S : Int))).setCell ⟨wr.heap.size, 2, none⟩ (.int .i64 p)).alloc (.cells #[.int .i64 (S : Int), .int .i64 p] 28)) w.heap.size u8 acc) := obs_two (obs_tr hown.out hk1) (obs_lt hown.out (Nat.le_refl _)) _ _ _ _ _
          have hlt8 : Hid (∀ j, u8.ownBlock = some j → j < wr.heap.size) := obs_lt hown.out (Nat.le_refl _)
          clear hown hbw Ko k1 lo co fo hk1 hxk hb0 hbr HXr hE0 hE2
          generalize (((w1.setCell ⟨wr.heap.size, 1, none⟩ (.int .i64 (S : Int))).setCell ⟨wr.heap.size, 2, none⟩ (.int .i64 p)).alloc (.cells #[.int .i64 (S : Int), .int .i64 p] 28)) = X at *
          generalize wr.heap.size = oB at *
          have HC5 := Lib.hid (show _ ∧ _ ∧ _ ∧ _ ∧ _ from ⟨(KX.get.2.1 0), (KX.get.2.1 1), (KX.get.2.1 2), (KX.get.2.1 3), (KX.get.2.1 4)⟩)
          have hbX : b < X.heap.size := Nat.lt_of_lt_of_le hbl HBX.out.size
          have HWX := Lib.hid (HX.out.block (HBX.out.block b hbl))
          have hoX := KX.lt
          obtain ⟨lo, co, fo⟩ := KX.get
          by_cases hsh : len < pos + 1 + S
          · have hshI : (len : Int) < (pos : Int) + 1 + (S : Int) := by omega
            have hres3 : Hid (walkF (bgO n ss) zs len (len + 1) 0 0 [] = .err 2 k) := by show _ = _; rw [hres.out, hres2.out, HN2.out]; simp [hsh]
            go_wp2_with fail
            go_ret2
            refine ⟨by rw [hres3.out]; rfl, ?_⟩
            have := HBX.out
            (repeat (first | with_reducible exact Below.refl _ _ | with_reducible refine kp_alloc ?_ _ | with_reducible refine kp_drew ?_ | with_reducible refine kp_set ?_ (by first | omega | (simp; done) | (simp; omega)) _ | with_reducible refine kp_tr ?_ (by with_reducible assumption)))
          · have hshI : ¬ (len : Int) < (pos : Int) + 1 + (S : Int) := by omega
            have hS1000 : S < 1000 := by omega
            have i1 : (0 : Int) ≤ (pos : Int) + 1 := by omega
            have i2 : (pos : Int) + 1 ≤ (pos : Int) + 1 + (S : Int) := by omega
            have i3 : (pos : Int) + 1 + (S : Int) ≤ (cap : Int) := by omega
            have i4 : (pos : Int) + 1 ≤ (cap : Int) := by omega
            have n1 : pos + 1 ≤ pos + 1 + S := by omega
            have n2 : pos + 1 + S ≤ cap := by omega
            have HWX2 : Hid (WordsAt X b off (pos + 1 + S) zs) := words_of fun i hi => HWX.out.at i (by omega)
            by_cases hcp : cap = pos + 1
            · have hS0 : S = 0 := by omega
              rcases hso : slotsB ⟨pos, S, p, false, 0⟩ zs S with _ | _
              · have hres3 : Hid (walkF (bgO n ss) zs len (len + 1) 0 0 [] = .err 3 k) := by show _ = _; rw [hres.out, hres2.out, HN2.out]; simp [hsh, hso]
                go_upto_region 20 with (fail)
                have jQ : IntKind.i64.wrap ((pos : Int) + 1) = (cap : Int) := by rw [wr_i64 _ (by omega)]; omega
                have jR : IntKind.i64.wrap ((cap : Int) + (S : Int)) = (cap : Int) := by rw [wr_i64 _ (by omega)]; omega
                have HR : Hid (cap = pos + 1 + S) := by show _ = _; omega
                have HS0 := Lib.hid hS0
                clear i1 i2 i3 i4 n1 n2 hcp hS0
                go_region_held3 (fun w' => w'.cell? ⟨oB, 0, none⟩ = some (.int .i64 pos) ∧ w'.cell? ⟨oB, 1, none⟩ = some (.int .i64 S) ∧ w'.cell? ⟨oB, 2, none⟩ = some (.int .i64 p) ∧ w'.cell? ⟨oB, 3, none⟩ = some (.bool false) ∧ w'.cell? ⟨oB, 4, none⟩ = some (.int .u64 0))
                  (first | (refine s5_tr ?_ HC5.out; (repeat (first | with_reducible exact Below.refl _ _ | with_reducible refine kp_alloc ?_ _ | with_reducible refine kp_drew ?_ | with_reducible refine kp_set ?_ (by first | omega | (simp; done) | (simp; omega)) _ | with_reducible refine kp_tr ?_ (by with_reducible assumption)))))
                  (first | (go_at_call 39; refine (slots_zero S 0 pos (some ⟨b, off, none⟩) p 0 false zs _ HS0.out HZ.out).mono ?_; rintro e w6 ⟨rfl, k6⟩))
                have B6 : Hid (Below w.heap.size w w6) := by
                  have := HBX.out
                  show Below _ _ _
                  (repeat (first | with_reducible exact Below.refl _ _ | with_reducible refine kp_alloc ?_ _ | with_reducible refine kp_drew ?_ | with_reducible refine kp_set ?_ (by first | omega | (simp; done) | (simp; omega)) _ | with_reducible refine kp_tr ?_ (by with_reducible assumption)))
                clear k6
                go_wp2_with fail
                go_ret2
                exact ⟨by rw [hres3.out]; rfl, B6.out⟩
              · have hres3 : Hid (walkF (bgO n ss) zs len (len + 1) 0 0 [] = walkF (bgO n ss) zs len f k (pos + 1 + S) (acc ++ [⟨pos, S, p, false, 0⟩])) := by show _ = _; rw [hres.out, hres2.out, HN2.out]; simp [hsh, hso]
                go_upto_region 20 with (fail)
                have jQ : IntKind.i64.wrap ((pos : Int) + 1) = (cap : Int) := by rw [wr_i64 _ (by omega)]; omega
                have jR : IntKind.i64.wrap ((cap : Int) + (S : Int)) = (cap : Int) := by rw [wr_i64 _ (by omega)]; omega
                have HR : Hid (cap = pos + 1 + S) := by show _ = _; omega
                have HS0 := Lib.hid hS0
                clear i1 i2 i3 i4 n1 n2 hcp hS0
                go_region_held3 (fun w' => w'.cell? ⟨oB, 0, none⟩ = some (.int .i64 pos) ∧ w'.cell? ⟨oB, 1, none⟩ = some (.int .i64 S) ∧ w'.cell? ⟨oB, 2, none⟩ = some (.int .i64 p) ∧ w'.cell? ⟨oB, 3, none⟩ = some (.bool false) ∧ w'.cell? ⟨oB, 4, none⟩ = some (.int .u64 0))
                  (first | (refine s5_tr ?_ HC5.out; (repeat (first | with_reducible exact Below.refl _ _ | with_reducible refine kp_alloc ?_ _ | with_reducible refine kp_drew ?_ | with_reducible refine kp_set ?_ (by first | omega | (simp; done) | (simp; omega)) _ | with_reducible refine kp_tr ?_ (by with_reducible assumption)))))
                  (first | (go_at_call 39; refine (slots_zero S 0 pos (some ⟨b, off, none⟩) p 0 false zs _ HS0.out HZ.out).mono ?_; rintro e w6 ⟨rfl, k6⟩))
                have k6' : Below X.heap.size X w6 := by (repeat (first | with_reducible exact Below.refl _ _ | with_reducible refine kp_alloc ?_ _ | with_reducible refine kp_drew ?_ | with_reducible refine kp_set ?_ (by first | omega | (simp; done) | (simp; omega)) _ | with_reducible refine kp_tr ?_ (by with_reducible assumption)))
                have B6 : Hid (Below w.heap.size w w6) := kp_tr HBX.out k6'
                have HV6 := Lib.hid (obs_tr HVX.out k6')
                have K6 := KX.tr k6'
                have h86 : Hid (∀ j, u8.ownBlock = some j → j < w6.heap.size) := obs_lt HV6.out (Nat.le_refl _)
                have hs6 := B6.out.size
                clear k6 k6' lo co fo HC5
                obtain ⟨lo, co, fo⟩ := K6.get
                have hsrc : ObjsIn (w6.alloc (.cells #[.int .i64 (pos : Int), .int .i64 (S : Int), .int .i64 p, .bool false, .int .u64 0] 53)) (.slice (some ⟨w6.heap.size, 0, none⟩) 1 1) [⟨(pos : Int), S, p, false, 0⟩] := objs_lit _ [⟨(pos : Int), S, p, false, 0⟩] w6.heap.size (Blk.new _ _ _) (by simp)
                have HSRC := Lib.hid hsrc
                clear hsrc
                go_wp2_with (at_builtin; refine app_objs _ rfl _ _ rfl w.heap.size u8 (.slice (some ⟨w6.heap.size, 0, none⟩) 1 1) acc [⟨(pos : Int), S, p, false, 0⟩] rfl rfl (obs_tr HV6.out ((Below.refl _ _).alloc (Nat.le_refl _) _)) HSRC.out ?c0 ?c1 ?c2)
                case c0 => simp; omega
                case c1 => exact le_alloc hs6
                case c2 =>
                intro v7 w7 o7 hg7 hat7
                have B7 : Hid (Below w.heap.size w w7) := obs_own (B6.out.alloc hs6 _) HV6.out hg7
                have O7 := Lib.hid o7
                have K7 := blk_row (K6.alloc (.cells #[.int .i64 (pos : Int), .int .i64 (S : Int), .int .i64 p, .bool false, .int .u64 0] 53)) hg7 (fun e => by have := hlt8.out _ e; omega)
                clear lo co fo K6 o7 hg7 hat7 HV6 HSRC
                obtain ⟨lo, co, fo⟩ := K7.get
                go_wp2_with fail
                refine ⟨⟨k, cap, f, acc ++ [(⟨(pos : Int), (S : Int), p, false, 0⟩ : Ob)], by first | rfl | go_num, by first | rfl | go_num, by have := HR.out; omega, by have := HR.out; simp; omega, by have := HR.out; omega, ?_, O7.out, B7.out⟩, ?_⟩
                · show _ = _
                  rw [HR.out]
                  exact hres3.out
                · have := HR.out
                  simp [intOf]; omega
            · have hcp1 : ¬ cap - (pos + 1) = 0 := by omega
              rcases hso : slotsB ⟨pos, S, p, false, 0⟩ zs S with _ | _
              · have hres3 : Hid (walkF (bgO n ss) zs len (len + 1) 0 0 [] = .err 3 k) := by show _ = _; rw [hres.out, hres2.out, HN2.out]; simp [hsh, hso]
                go_upto_region 20 with (fail)
                obtain ⟨Q, hQ⟩ : ∃ Q, Q = pos + 1 := ⟨_, rfl⟩
                obtain ⟨R, hR⟩ : ∃ R, R = pos + 1 + S := ⟨_, rfl⟩
                have jQ : IntKind.i64.wrap ((pos : Int) + 1) = (Q : Int) := by rw [hQ]; rw [wr_i64 _ (by omega)]; omega
                have jR : IntKind.i64.wrap ((Q : Int) + (S : Int)) = (R : Int) := by rw [hQ, hR]; rw [wr_i64 _ (by omega)]; omega
                have qR : (R : Int) ≤ (cap : Int) := by omega
                have qR2 : R ≤ cap := by omega
                have qQ : (Q : Int) ≤ (R : Int) := by omega
                have qQ2 : Q ≤ R := by omega
                have qS : R - Q = S := by omega
                have qC : ¬ cap = Q := by omega
                have HQ := Lib.hid hQ
                have HR := Lib.hid hR
                clear hQ hR i1 i2 i3 i4 n1 n2 hcp hcp1
                go_region_held3 (fun w' => w'.cell? ⟨oB, 0, none⟩ = some (.int .i64 pos) ∧ w'.cell? ⟨oB, 1, none⟩ = some (.int .i64 S) ∧ w'.cell? ⟨oB, 2, none⟩ = some (.int .i64 p) ∧ w'.cell? ⟨oB, 3, none⟩ = some (.bool false) ∧ w'.cell? ⟨oB, 4, none⟩ = some (.int .u64 0))
                  (first | (refine s5_tr ?_ HC5.out; (repeat (first | with_reducible exact Below.refl _ _ | with_reducible refine kp_alloc ?_ _ | with_reducible refine kp_drew ?_ | with_reducible refine kp_set ?_ (by first | omega | (simp; done) | (simp; omega)) _ | with_reducible refine kp_tr ?_ (by with_reducible assumption)))))
                  (first | (go_at_call 39; refine (slots_told b off S (cap - Q) pos (some ⟨b, off + Q, none⟩) p 0 false zs _ hS1000 ?_ ?_ HZ.out).mono ?_; (intro h0; rw [HQ.out]); (intro h0; refine WordsAt.block HWX2.out ?_; refine Below.block (B := X.heap.size) ?_ b hbX; (repeat (first | with_reducible exact Below.refl _ _ | with_reducible refine kp_alloc ?_ _ | with_reducible refine kp_drew ?_ | with_reducible refine kp_set ?_ (by first | omega | (simp; done) | (simp; omega)) _ | with_reducible refine kp_tr ?_ (by with_reducible assumption)))); rintro e w6 ⟨rfl, k6⟩))
                have B6 : Hid (Below w.heap.size w w6) := by
                  have := HBX.out
                  show Below _ _ _
                  (repeat (first | with_reducible exact Below.refl _ _ | with_reducible refine kp_alloc ?_ _ | with_reducible refine kp_drew ?_ | with_reducible refine kp_set ?_ (by first | omega | (simp; done) | (simp; omega)) _ | with_reducible refine kp_tr ?_ (by with_reducible assumption)))
                clear k6
                go_wp2_with fail
                go_ret2
                exact ⟨by rw [hres3.out]; rfl, B6.out⟩
              · have hres3 : Hid (walkF (bgO n ss) zs len (len + 1) 0 0 [] = walkF (bgO n ss) zs len f k (pos + 1 + S) (acc ++ [⟨pos, S, p, false, 0⟩])) := by show _ = _; rw [hres.out, hres2.out, HN2.out]; simp [hsh, hso]
                go_upto_region 20 with (fail)
                obtain ⟨Q, hQ⟩ : ∃ Q, Q = pos + 1 := ⟨_, rfl⟩
                obtain ⟨R, hR⟩ : ∃ R, R = pos + 1 + S := ⟨_, rfl⟩
                have jQ : IntKind.i64.wrap ((pos : Int) + 1) = (Q : Int) := by rw [hQ]; rw [wr_i64 _ (by omega)]; omega
                have jR : IntKind.i64.wrap ((Q : Int) + (S : Int)) = (R : Int) := by rw [hQ, hR]; rw [wr_i64 _ (by omega)]; omega
                have qR : (R : Int) ≤ (cap : Int) := by omega
                have qR2 : R ≤ cap := by omega
                have qQ : (Q : Int) ≤ (R : Int) := by omega
                have qQ2 : Q ≤ R := by omega
                have qS : R - Q = S := by omega
                have qC : ¬ cap = Q := by omega
                have HQ := Lib.hid hQ
                have HR := Lib.hid hR
                clear hQ hR i1 i2 i3 i4 n1 n2 hcp hcp1
                go_region_held3 (fun w' => w'.cell? ⟨oB, 0, none⟩ = some (.int .i64 pos) ∧ w'.cell? ⟨oB, 1, none⟩ = some (.int .i64 S) ∧ w'.cell? ⟨oB, 2, none⟩ = some (.int .i64 p) ∧ w'.cell? ⟨oB, 3, none⟩ = some (.bool false) ∧ w'.cell? ⟨oB, 4, none⟩ = some (.int .u64 0))
                  (first | (refine s5_tr ?_ HC5.out; (repeat (first | with_reducible exact Below.refl _ _ | with_reducible refine kp_alloc ?_ _ | with_reducible refine kp_drew ?_ | with_reducible refine kp_set ?_ (by first | omega | (simp; done) | (simp; omega)) _ | with_reducible refine kp_tr ?_ (by with_reducible assumption)))))
                  (first | (go_at_call 39; refine (slots_told b off S (cap - Q) pos (some ⟨b, off + Q, none⟩) p 0 false zs _ hS1000 ?_ ?_ HZ.out).mono ?_; (intro h0; rw [HQ.out]); (intro h0; refine WordsAt.block HWX2.out ?_; refine Below.block (B := X.heap.size) ?_ b hbX; (repeat (first | with_reducible exact Below.refl _ _ | with_reducible refine kp_alloc ?_ _ | with_reducible refine kp_drew ?_ | with_reducible refine kp_set ?_ (by first | omega | (simp; done) | (simp; omega)) _ | with_reducible refine kp_tr ?_ (by with_reducible assumption)))); rintro e w6 ⟨rfl, k6⟩))
                have k6' : Below X.heap.size X w6 := by (repeat (first | with_reducible exact Below.refl _ _ | with_reducible refine kp_alloc ?_ _ | with_reducible refine kp_drew ?_ | with_reducible refine kp_set ?_ (by first | omega | (simp; done) | (simp; omega)) _ | with_reducible refine kp_tr ?_ (by with_reducible assumption)))
                have B6 : Hid (Below w.heap.size w w6) := kp_tr HBX.out k6'
                have HV6 := Lib.hid (obs_tr HVX.out k6')
                have K6 := KX.tr k6'
                have h86 : Hid (∀ j, u8.ownBlock = some j → j < w6.heap.size) := obs_lt HV6.out (Nat.le_refl _)
                have hs6 := B6.out.size
                clear k6 k6' lo co fo HC5
                obtain ⟨lo, co, fo⟩ := K6.get
                have hsrc : ObjsIn (w6.alloc (.cells #[.int .i64 (pos : Int), .int .i64 (S : Int), .int .i64 p, .bool false, .int .u64 0] 53)) (.slice (some ⟨w6.heap.size, 0, none⟩) 1 1) [⟨(pos : Int), S, p, false, 0⟩] := objs_lit _ [⟨(pos : Int), S, p, false, 0⟩] w6.heap.size (Blk.new _ _ _) (by simp)
                have HSRC := Lib.hid hsrc
                clear hsrc
                go_wp2_with (at_builtin; refine app_objs _ rfl _ _ rfl w.heap.size u8 (.slice (some ⟨w6.heap.size, 0, none⟩) 1 1) acc [⟨(pos : Int), S, p, false, 0⟩] rfl rfl (obs_tr HV6.out ((Below.refl _ _).alloc (Nat.le_refl _) _)) HSRC.out ?c0 ?c1 ?c2)
                case c0 => simp; omega
                case c1 => exact le_alloc hs6
                case c2 =>
                intro v7 w7 o7 hg7 hat7
                have B7 : Hid (Below w.heap.size w w7) := obs_own (B6.out.alloc hs6 _) HV6.out hg7
                have O7 := Lib.hid o7
                have K7 := blk_row (K6.alloc (.cells #[.int .i64 (pos : Int), .int .i64 (S : Int), .int .i64 p, .bool false, .int .u64 0] 53)) hg7 (fun e => by have := hlt8.out _ e; omega)
                clear lo co fo K6 o7 hg7 hat7 HV6 HSRC
                obtain ⟨lo, co, fo⟩ := K7.get
                go_wp2_with fail
                refine ⟨⟨k, R, f, acc ++ [(⟨(pos : Int), (S : Int), p, false, 0⟩ : Ob)], by first | rfl | go_num, by first | rfl | go_num, by have := HR.out; omega, by have := HR.out; simp; omega, by have := HR.out; omega, ?_, O7.out, B7.out⟩, ?_⟩
                · show _ = _
                  rw [HR.out]
                  exact hres3.out
                · have := HR.out
                  simp [intOf]; omega
    · obtain ⟨f, rfl⟩ : ∃ f', f = f' + 1 := ⟨f - 1, by omega⟩
      have hres2 := Lib.hid (walkF_end (bg := bgO n ss) (zs := zs) (f := f) (k := k) (acc := acc) hlt)
      obtain rfl : pos = len := by omega
      by_cases hkl : k < n
      · have hkli : (k : Int) < (n : Int) := by omega
        go_wp2_with fail
        go_ret2
        exact ⟨by rw [hres.out, hres2.out]; unfold oldRes; dsimp only; rw [if_pos hkl]; rfl, hbw.out⟩
      · have hkli : ¬ (k : Int) < (n : Int) := by omega
        go_wp2_with fail
        go_ret2
        exact ⟨by rw [hres.out, hres2.out]; unfold oldRes; dsimp only; rw [if_neg hkl]; exact ⟨_, rfl, hown.out⟩, hbw.out⟩
end Go.Proofs.Ytiboinckdjiniaa.ob
