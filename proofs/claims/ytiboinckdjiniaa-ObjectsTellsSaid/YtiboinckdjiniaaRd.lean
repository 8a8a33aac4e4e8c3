/- The reference of layer 6: Kinds. No conditions. -/
import Derived.Test.YtiboinckdjiniaaRc
namespace Go.Proofs.Ytiboinckdjiniaa.ob
open Go.RowKit Go.Proofs.Ytiboinckdjiniaa.hd
set_option linter.unusedVariables false
set_option linter.unusedSimpArgs false
def kindsR (len : Nat) : List Ob → List Int → Option (List Int)
  | [], acc => if acc.length = len then some acc else none
  | o :: l, acc => if rightB o.s o.p = false ∨ o.pos ≠ acc.length then none else kindsR len l (acc ++ kindO o)
theorem kindsR_long {len : Nat} : ∀ {l : List Ob} {acc : List Int}, len < acc.length → kindsR len l acc = none
  | [], acc, h => by unfold kindsR; rw [if_neg (by omega)]
  | o :: l, acc, h => by
    unfold kindsR
    split
    · rfl
    · exact kindsR_long (by simp; omega)
theorem kindO_len (o : Ob) : (kindO o).length = o.s.toNat + 1 := by simp [kindO]
theorem kindsR_eq {len : Nat} : ∀ {l : List Ob} {acc : List Int}, kindsR len l acc = kindsF len l acc
  | [], acc => rfl
  | o :: l, acc => by
    unfold kindsR kindsF
    by_cases h1 : rightB o.s o.p = false ∨ o.pos ≠ acc.length
    · rw [if_pos h1, if_pos (by unfold kindBad; rcases h1 with h | h; exact .inr (.inr (.inl h)); exact .inl h)]
    · rw [if_neg h1]
      have hr : rightB o.s o.p = true := by
        rcases hq : rightB o.s o.p with _ | _
        · exact absurd (.inl hq) h1
        · rfl
      have hp : o.pos = acc.length := by
        rcases Int.decEq o.pos acc.length with h | h
        · exact absurd (.inr h) h1
        · exact h
      obtain ⟨q1, q2, q3, q4⟩ := rightB_t hr
      by_cases h2 : kindBad len acc o
      · rw [if_pos h2]
        refine kindsR_long ?_
        rw [List.length_append, kindO_len]
        unfold kindBad at h2
        rcases h2 with h | h | h | h
        · exact absurd hp h
        · omega
        · rw [hr] at h; cases h
        · omega
      · rw [if_neg h2]; exact kindsR_eq
set_option maxRecDepth 100000 in
set_option maxHeartbeats 4000000 in
theorem kindsref_any (ad : Option Addr) (len cap : Nat) (v0 : Value) (os : List Ob) (w : World) (hlen : len < 1000000000000) (ho : ObjsIn w v0 os) (hn6 : os.length < 100000) :
    Calls Try.prog 18 #[.slice ad len cap, v0] w fun e w' => KindsPost w.heap.size (kindsR len os []) e w' ∧ Below w.heap.size w w' := by
  obtain ⟨ad', b, off, cap', rfl, ⟨a1, a2⟩, a3, a4, a5, a6⟩ := ho
  have HA := Lib.hid a1
  have HC := Lib.hid a6
  clear a1 a2 a6
  generalize hn : os.length = n at *
  have HN := Lib.hid hn
  clear hn
  go_enter Try.func18, Try.ntmps18
  go_wp2_with fail
  go_loopw [7, 6] (fun i v wr => ∃ (k : Nat) (acc : List Int), k ≤ n ∧ i = .int .i64 k ∧ acc.length ≤ 256 * k ∧ Hid (kindsR len os [] = kindsR len (os.drop k) acc) ∧ Hid (OwnInts wr w.heap.size v acc) ∧ Hid (Below w.heap.size w wr)) (fun i _ _ => n - (intOf i).toNat)
  case atStart => exact ⟨0, [], Nat.zero_le _, rfl, Nat.zero_le _, rfl, OwnInts.nil _ _, Below.refl _ _⟩
  case round =>
    obtain ⟨k, acc, hk, rfl, hal, hres, HO, HBR⟩ := hrel
    obtain ⟨va, vc, hvf⟩ := HO.out.form
    subst hvf
    have hws := HBR.out.size
    by_cases hlk : k < n
    · obtain rfl := HA.out (by omega)
      have hxk := (HC.out.block (HBR.out.block b a5)).at k hlk
      have HS := Lib.hid (hres.out.trans (by rw [drop_ob (by have := HN.out; omega)]; rfl : kindsR len (os.drop k) acc = if rightB (obD os k).s (obD os k).p = false ∨ (obD os k).pos ≠ acc.length then none else kindsR len (os.drop (k + 1)) (acc ++ kindO (obD os k))))
      clear hres
      have hxw := HC.out.at k hlk
      generalize obD os k = o at *
      obtain ⟨p0, s, p, g, t⟩ := o
      obtain ⟨x0, x1, x2, x3, x4⟩ := hxk
      obtain ⟨_, y1, y2, _, _⟩ := hxw
      dsimp only at x0 x1 x2 x3 x4 y1 y2
      generalize hm : acc.length = m at *
      have HM := Lib.hid hm
      have hbr : b < wr.heap.size := by omega
      rcases h3 : rightB s p with _ | _
      · have HR : Hid (kindsR len os [] = none) := HS.out.trans (if_pos (.inl h3))
        go_wp2_with fail
        refine (rrref_any s p _).mono ?_; rintro e w1 ⟨rfl, k1⟩
        rw [h3]
        go_wp2_with fail
        go_ret2
        refine ⟨by rw [HR.out]; rfl, ?_⟩
        have := HBR.out
        (repeat (first | with_reducible exact Below.refl _ _ | with_reducible refine kp_alloc ?_ _ | with_reducible refine kp_drew ?_ | with_reducible refine kp_set ?_ (by first | omega | (simp; done) | (simp; omega)) _ | with_reducible refine kp_tr ?_ (by with_reducible assumption)))
      · obtain ⟨r1, r2, r3, r4⟩ := rightB_t h3
        obtain ⟨S, rfl⟩ := Int.eq_ofNat_of_zero_le r1
        obtain ⟨P, rfl⟩ := Int.eq_ofNat_of_zero_le r3
        by_cases h1 : p0 = m
        · subst h1
          have hb1 : ((m : Int) == (m : Int)) = true := by simp
          have HR : Hid (kindsR len os [] = kindsR len (os.drop (k + 1)) (acc ++ kindO ⟨m, S, P, g, t⟩)) := HS.out.trans (if_neg (by rintro (q | q) <;> dsimp only at q <;> first | omega | (rw [h3] at q; cases q)))
          go_wp2_with fail
          refine (rrref_any S P _).mono ?_; rintro e w1 ⟨rfl, k1⟩
          rw [h3]
          replace x0 := cell_tr k1 x0
          have HB1h : Hid (Below w.heap.size w w1) := kp_tr HBR.out k1
          have HO1 : Hid (OwnInts w1 w.heap.size (.slice va m vc) acc) := HO.out.tr k1
          have hs1 := HB1h.out.size
          clear k1 HO HBR x1 x2 x3 x4
          go_wp2_with (at_builtin; refine app_OwnInts _ rfl _ _ rfl w.heap.size (.slice va m vc) (.slice (some ⟨w1.heap.size, 0, none⟩) 1 1) acc [1] rfl rfl (HO1.out.tr ((Below.refl _ _).alloc (Nat.le_refl _) _)) (one_ints _ _) ?c0 ?c1 ?c2)
          case c0 => have := HM.out; first | omega | (simp; omega)
          case c1 => first | omega | (simp; omega)
          case c2 =>
          intro v2 w2 ho2 hg2 hat2
          have HB2 : Hid (Below w.heap.size w w2) := grown_own (HB1h.out.alloc hs1 _) (HO1.out.tr ((Below.refl _ _).alloc (Nat.le_refl _) _)) hg2
          have HO2 := Lib.hid ho2
          have HM2 : Hid (acc.length = m) := HM.out
          clear ho2 hg2 hat2 HO1 HB1h x0
          go_wp2_with fail
          go_loopw [9, 6] (fun i v wr2 => ∃ j : Nat, j ≤ S ∧ i = .int .i64 j ∧ Hid (OwnInts wr2 w.heap.size v (acc ++ 1 :: (List.range j).map (kd P))) ∧ Hid (Below w.heap.size w wr2)) (fun i _ _ => S - (intOf i).toNat)
          case atStart => exact ⟨0, Nat.zero_le _, rfl, HO2.out, HB2.out⟩
          case round =>
            obtain ⟨j, hj, rfl, ho3, hb3⟩ := hrel
            have hs3 := hb3.out.size
            have z1 := cell_tr hb3.out y1
            have z2 := cell_tr hb3.out y2
            have hb3r : b < wr.heap.size := by omega
            have hb3n : b ≠ wr.heap.size := by omega
            by_cases hjS : j < S
            · by_cases hjP : j < P
              · have hjI : (j : Int) < (P : Int) := by omega
                have hkd : Hid (kd P j = 2) := if_pos hjI
                obtain ⟨va3, l3, vc3, hv3⟩ := ho3.out.form2
                subst hv3
                go_wp2_with (at_builtin; refine app_OwnInts _ rfl _ _ rfl w.heap.size (.slice va3 l3 vc3) (.slice (some ⟨wr.heap.size, 0, none⟩) 1 1) (acc ++ 1 :: (List.range j).map (kd P)) [2] rfl rfl (ho3.out.tr ((Below.refl _ _).alloc (Nat.le_refl _) _)) (one_ints _ _) ?c0 ?c1 ?c2)
                case c0 => have := HM2.out; first | omega | (simp; omega)
                case c1 => first | omega | (simp; omega)
                case c2 =>
                intro v4 w4 ho4 hg4 hat4
                have HB4 : Hid (Below w.heap.size w w4) := grown_own (hb3.out.alloc hs3 _) (ho3.out.tr ((Below.refl _ _).alloc (Nat.le_refl _) _)) hg4
                rw [kinds_snoc hkd.out] at ho4
                have HO4 := Lib.hid ho4
                clear ho4 hg4 hat4
                go_wp2_with fail
                exact ⟨⟨j + 1, by omega, by go_num, HO4.out, HB4.out⟩, by simp [intOf]; omega⟩
              · have hjI : ¬ (j : Int) < (P : Int) := by omega
                have hkd : Hid (kd P j = 3) := if_neg hjI
                obtain ⟨va3, l3, vc3, hv3⟩ := ho3.out.form2
                subst hv3
                go_wp2_with (at_builtin; refine app_OwnInts _ rfl _ _ rfl w.heap.size (.slice va3 l3 vc3) (.slice (some ⟨wr.heap.size, 0, none⟩) 1 1) (acc ++ 1 :: (List.range j).map (kd P)) [3] rfl rfl (ho3.out.tr ((Below.refl _ _).alloc (Nat.le_refl _) _)) (one_ints _ _) ?c0 ?c1 ?c2)
                case c0 => have := HM2.out; first | omega | (simp; omega)
                case c1 => first | omega | (simp; omega)
                case c2 =>
                intro v4 w4 ho4 hg4 hat4
                have HB4 : Hid (Below w.heap.size w w4) := grown_own (hb3.out.alloc hs3 _) (ho3.out.tr ((Below.refl _ _).alloc (Nat.le_refl _) _)) hg4
                rw [kinds_snoc hkd.out] at ho4
                have HO4 := Lib.hid ho4
                clear ho4 hg4 hat4
                go_wp2_with fail
                exact ⟨⟨j + 1, by omega, by go_num, HO4.out, HB4.out⟩, by simp [intOf]; omega⟩
            · obtain rfl : j = S := by omega
              go_wp2_with fail
              refine ⟨⟨k + 1, acc ++ kindO ⟨m, j, P, g, t⟩, by omega, by go_num, ?_, HR.out, ho3.out, hb3.out⟩, by simp [intOf]; omega⟩
              have := HM2.out
              simp [kindO]; omega
        · have h1b : (p0 == (m : Int)) = false := beq_eq_false_iff_ne.mpr h1
          have HR : Hid (kindsR len os [] = none) := HS.out.trans (if_pos (.inr h1))
          go_wp2_with fail
          refine (rrref_any S P _).mono ?_; rintro e w1 ⟨rfl, k1⟩
          rw [h3]
          replace x0 := cell_tr k1 x0
          go_wp2_with fail
          go_ret2
          refine ⟨by rw [HR.out]; rfl, ?_⟩
          have := HBR.out
          (repeat (first | with_reducible exact Below.refl _ _ | with_reducible refine kp_alloc ?_ _ | with_reducible refine kp_drew ?_ | with_reducible refine kp_set ?_ (by first | omega | (simp; done) | (simp; omega)) _ | with_reducible refine kp_tr ?_ (by with_reducible assumption)))
    · obtain rfl : k = n := by omega
      have HR : Hid (kindsR len os [] = if acc.length = len then some acc else none) := hres.out.trans (by rw [List.drop_of_length_le (by have := HN.out; omega)]; rfl)
      clear hres
      generalize hm : acc.length = m at *
      clear hm
      by_cases hml : m = len
      · subst hml
        have hb1 : ((m : Int) == (m : Int)) = true := by simp
        go_wp2_with fail
        go_ret2
        exact ⟨by rw [HR.out]; first | rw [if_pos rfl] | rw [if_pos trivial]; exact ⟨_, rfl, HO.out⟩, HBR.out⟩
      · have hb1 : ((m : Int) == (len : Int)) = false := beq_eq_false_iff_ne.mpr (by omega)
        go_wp2_with fail
        go_ret2
        exact ⟨by rw [HR.out, if_neg hml]; rfl, HBR.out⟩
end Go.Proofs.Ytiboinckdjiniaa.ob
