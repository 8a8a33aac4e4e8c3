/- objects.Kinds. No conditions. -/
import Derived.Test.YtpgjploaliefdaaGreatG03
namespace Go.Proofs.YtpgjploaliefdaaGreat.ob
open Go.RowKit Go.Proofs.YtpgjploaliefdaaGreat.hd
set_option linter.unusedVariables false
set_option linter.unusedSimpArgs false
def kd (p : Int) (j : Nat) : Int := if (j : Int) < p then 2 else 3
def kindO (o : Ob) : List Int := 1 :: (List.range o.s.toNat).map (kd o.p)
def kindBad (len : Nat) (acc : List Int) (o : Ob) : Prop := o.pos ≠ acc.length ∨ (len : Int) ≤ o.pos ∨ rightB o.s o.p = false ∨ (len : Int) - o.pos - 1 < o.s
instance (len : Nat) (acc : List Int) (o : Ob) : Decidable (kindBad len acc o) := by unfold kindBad; infer_instance
def kindsF (len : Nat) : List Ob → List Int → Option (List Int)
  | [], acc => if acc.length = len then some acc else none
  | o :: l, acc => if kindBad len acc o then none else kindsF len l (acc ++ kindO o)
def KindsPost (B : Nat) (r : Option (List Int)) (e : Ending) (W : World) : Prop :=
  match r with
  | none => e = .returned (.tuple #[.slice none 0 0, .int .i64 1])
  | some ks => ∃ v, e = .returned (.tuple #[v, .int .i64 0]) ∧ OwnInts W B v ks
theorem drop_ob {os : List Ob} {k : Nat} (h : k < os.length) : os.drop k = obD os k :: os.drop (k + 1) := by
  rw [List.drop_eq_getElem_cons h]; simp [obD, List.getD, h]
theorem grown_own {w W W' : World} {v : Value} {zs : List Int} (hb : Below w.heap.size w W) (ho : OwnInts W w.heap.size v zs) (hg : W.grownBy W' v.ownBlock) : Below w.heap.size w W' := by
  have hol := World.ownsRow.lt ho
  exact ⟨hg.os.trans hb.os, hg.tape.trans hb.tape, hg.output.trans hb.output, Nat.le_trans hb.size hg.size, fun j hj => (hg.block j (Nat.lt_of_lt_of_le hj hb.size) (fun e => by have := hol j e.symm; omega)).trans (hb.block j hj)⟩
theorem blk_row {W w : World} {n : Nat} {cs : Array Value} {T : TypeId} {r : Option Nat} (h : Blk W n cs T) (hg : W.grownBy w r) (hn : r ≠ some n) : Blk w n cs T := Blk.of ((hg.block n h.lt (fun e => hn e.symm)).trans h.raw)
theorem kinds_len {p : Int} {acc : List Int} {j : Nat} : (acc ++ 1 :: (List.range j).map (kd p)).length = acc.length + 1 + j := by simp; omega
theorem kinds_snoc {p : Int} {acc : List Int} {j : Nat} {x : Int} (h : kd p j = x) : acc ++ 1 :: ((List.range j).map (kd p) ++ [x]) = acc ++ 1 :: (List.range (j + 1)).map (kd p) := by
  rw [List.range_succ, List.map_append]; simp [h]
theorem OwnInts.form {W : World} {B : Nat} {v : Value} {zs : List Int} (h : OwnInts W B v zs) : ∃ va vc, v = .slice va zs.length vc := by
  rcases h.2 with ⟨rfl, h1⟩ | ⟨g, cap, cur, rfl, _⟩
  · rw [h1]; exact ⟨_, _, rfl⟩
  · exact ⟨_, _, rfl⟩
theorem OwnInts.form2 {W : World} {B : Nat} {v : Value} {zs : List Int} (h : OwnInts W B v zs) : ∃ va l vc, v = .slice va l vc := by
  obtain ⟨a, c, h⟩ := h.form
  exact ⟨a, _, c, h⟩
set_option maxRecDepth 100000 in
set_option maxHeartbeats 4000000 in
theorem kinds_any (ad : Option Addr) (len cap : Nat) (v0 : Value) (os : List Ob) (w : World) (hlen : len < 1000000000000) (ho : ObjsIn w v0 os) :
    Calls Tryz.prog 43 #[.slice ad len cap, v0] w fun e w' => KindsPost w.heap.size (kindsF len os []) e w' ∧ Below w.heap.size w w' := by
  obtain ⟨ad', b, off, cap', rfl, ⟨a1, a2⟩, a3, a4, a5, a6⟩ := ho
  have HA := Lib.hid a1
  have HC := Lib.hid a6
  clear a1 a2 a6
  generalize hn : os.length = n at *
  have HN := Lib.hid hn
  clear hn
  go_enter Tryz.func43, Tryz.ntmps43
  go_wp2_with fail
  go_loopw [12, 6] (fun i v wr => ∃ (k : Nat) (acc : List Int), k ≤ n ∧ i = .int .i64 k ∧ acc.length ≤ len ∧ Hid (kindsF len os [] = kindsF len (os.drop k) acc) ∧ OwnInts wr w.heap.size v acc ∧ Below w.heap.size w wr) (fun i _ _ => n - (intOf i).toNat)
  case atStart => exact ⟨0, [], Nat.zero_le _, rfl, Nat.zero_le _, rfl, OwnInts.nil _ _, Below.refl _ _⟩
  case round =>
    obtain ⟨k, acc, hk, rfl, hal, hres, hown, hbr⟩ := hrel
    obtain ⟨va, vc, rfl⟩ := hown.form
    have HO := Lib.hid hown
    have HBR := Lib.hid hbr
    have hws := hbr.size
    by_cases hlk : k < n
    · obtain rfl := HA.out (by omega)
      have hxk := (HC.out.block (hbr.block b a5)).at k hlk
      have HS := Lib.hid (hres.out.trans (by rw [drop_ob (by have := HN.out; omega)]; rfl : kindsF len (os.drop k) acc = if kindBad len acc (obD os k) then none else kindsF len (os.drop (k + 1)) (acc ++ kindO (obD os k))))
      clear hown hbr hres
      generalize obD os k = o at *
      obtain ⟨p0, s, p, g, t⟩ := o
      obtain ⟨x0, x1, x2, x3, x4⟩ := hxk
      dsimp only at x0 x1 x2 x3 x4
      generalize hm : acc.length = m at *
      have HM := Lib.hid hm
      by_cases h1 : p0 = m
      · subst h1
        have hb1 : ((m : Int) == (m : Int)) = true := by simp
        by_cases h2 : len ≤ m
        · have h2i : (len : Int) ≤ (m : Int) := by omega
          have HR : Hid (kindsF len os [] = none) := HS.out.trans (if_pos (.inr (.inl h2i)))
          go_wp2_with fail
          go_ret2
          refine ⟨by rw [HR.out]; rfl, ?_⟩
          have := HBR.out
          (repeat (first | with_reducible exact Below.refl _ _ | with_reducible refine kp_alloc ?_ _ | with_reducible refine kp_drew ?_ | with_reducible refine kp_set ?_ (by first | omega | (simp; done) | (simp; omega)) _ | with_reducible refine kp_tr ?_ (by with_reducible assumption)))
        · have h2i : (m : Int) < (len : Int) := by omega
          rcases h3 : rightB s p with _ | _
          · have HR : Hid (kindsF len os [] = none) := HS.out.trans (if_pos (.inr (.inr (.inl h3))))
            go_wp2_with fail
            refine (right_any s p _).mono ?_; rintro e w1 ⟨rfl, k1⟩
            rw [h3]
            go_wp2_with fail
            go_ret2
            refine ⟨by rw [HR.out]; rfl, ?_⟩
            have := HBR.out
            (repeat (first | with_reducible exact Below.refl _ _ | with_reducible refine kp_alloc ?_ _ | with_reducible refine kp_drew ?_ | with_reducible refine kp_set ?_ (by first | omega | (simp; done) | (simp; omega)) _ | with_reducible refine kp_tr ?_ (by with_reducible assumption)))
          · obtain ⟨r1, r2, r3, r4⟩ := rightB_t h3
            obtain ⟨S, rfl⟩ := Int.eq_ofNat_of_zero_le r1
            obtain ⟨P, rfl⟩ := Int.eq_ofNat_of_zero_le r3
            have Ko0 : Blk (wr.alloc (.cells #[.int .i64 m, .int .i64 S, .int .i64 P, .bool g, .int .u64 t] 58)) wr.heap.size #[.int .i64 m, .int .i64 S, .int .i64 P, .bool g, .int .u64 t] 58 := Blk.new _ _ _
            by_cases h4 : (len : Int) - m - 1 < S
            · have HR : Hid (kindsF len os [] = none) := HS.out.trans (if_pos (.inr (.inr (.inr h4))))
              go_wp2_with fail
              refine (right_any S P _).mono ?_; rintro e w1 ⟨rfl, k1⟩
              rw [h3]
              have Ko := Ko0.tr k1
              clear Ko0
              obtain ⟨lo, co, fo⟩ := Ko.get
              go_wp2_with fail
              go_ret2
              refine ⟨by rw [HR.out]; rfl, ?_⟩
              have := HBR.out
              (repeat (first | with_reducible exact Below.refl _ _ | with_reducible refine kp_alloc ?_ _ | with_reducible refine kp_drew ?_ | with_reducible refine kp_set ?_ (by first | omega | (simp; done) | (simp; omega)) _ | with_reducible refine kp_tr ?_ (by with_reducible assumption)))
            · have HR : Hid (kindsF len os [] = kindsF len (os.drop (k + 1)) (acc ++ kindO ⟨m, S, P, g, t⟩)) := HS.out.trans (if_neg (by rintro (q | q | q | q) <;> dsimp only at q <;> first | omega | (rw [h3] at q; cases q)))
              have hr : ¬ (len : Int) - m - 1 < S := h4
              go_wp2_with fail
              refine (right_any S P _).mono ?_; rintro e w1 ⟨rfl, k1⟩
              rw [h3]
              have Ko := Ko0.tr k1
              clear Ko0
              have HB1 : Below w.heap.size w w1 := by have := HBR.out; (repeat (first | with_reducible exact Below.refl _ _ | with_reducible refine kp_alloc ?_ _ | with_reducible refine kp_drew ?_ | with_reducible refine kp_set ?_ (by first | omega | (simp; done) | (simp; omega)) _ | with_reducible refine kp_tr ?_ (by with_reducible assumption)))
              have HO1 : Hid (OwnInts w1 w.heap.size (.slice va m vc) acc) := (HO.out.tr ((Below.refl _ _).alloc (Nat.le_refl _) (.cells #[.int .i64 m, .int .i64 S, .int .i64 P, .bool g, .int .u64 t] 58))).tr k1
              have hob : (Value.slice va m vc).ownBlock ≠ some wr.heap.size := fun e => by have := World.ownsRow.lt HO.out _ e; omega
              obtain ⟨lo, co, fo⟩ := Ko.get
              have HB1h := Lib.hid HB1
              have hs1 := HB1.size
              have HOB := Lib.hid hob
              have HKo := Lib.hid Ko
              clear HB1 hob Ko k1 HO HBR
              go_wp2_with (at_builtin; refine app_OwnInts _ rfl _ _ rfl w.heap.size (.slice va m vc) (.slice (some ⟨w1.heap.size, 0, none⟩) 1 1) acc [1] rfl rfl (HO1.out.tr ((Below.refl _ _).alloc (Nat.le_refl _) _)) (one_ints _ _) ?c0 ?c1 ?c2)
              case c0 => have := HM.out; first | omega | (simp; omega)
              case c1 => first | omega | (simp; omega)
              case c2 =>
              intro v2 w2 ho2 hg2 hat2
              have hne2 : Hid (v2.ownBlock ≠ some wr.heap.size) := fun e => by
                rcases hat2 with h | h
                · rw [h] at e; exact HOB.out e
                · rw [h] at e; simp at e; omega
              have HKo2 := Lib.hid (blk_row (HKo.out.alloc (.cells #[.int .i64 1] 3)) hg2 HOB.out)
              have HB2 : Hid (Below w.heap.size w w2) := grown_own (HB1h.out.alloc hs1 _) (HO1.out.tr ((Below.refl _ _).alloc (Nat.le_refl _) _)) hg2
              have HO2 := Lib.hid ho2
              have HM2 : Hid (acc.length = m) := HM.out
              clear ho2 hg2 hat2 HOB HKo HO1 HB1h lo co fo
              generalize hoB : wr.heap.size = oB at *
              clear hoB
              obtain ⟨lo, co, fo⟩ := HKo2.out.get
              go_wp2_with fail
              go_loopw [52, 6] (fun i v wr2 => ∃ j : Nat, j ≤ S ∧ i = .int .i64 j ∧ Hid (OwnInts wr2 w.heap.size v (acc ++ 1 :: (List.range j).map (kd P))) ∧ Hid (Blk wr2 oB #[.int .i64 m, .int .i64 S, .int .i64 P, .bool g, .int .u64 t] 58) ∧ Hid (v.ownBlock ≠ some oB) ∧ Hid (Below w.heap.size w wr2)) (fun i _ _ => S - (intOf i).toNat)
              case atStart => exact ⟨0, Nat.zero_le _, rfl, HO2.out, HKo2.out, hne2.out, HB2.out⟩
              case round =>
                obtain ⟨j, hj, rfl, ho3, hk3, hne3, hb3⟩ := hrel
                clear lo co fo
                obtain ⟨lo, co, fo⟩ := hk3.out.get
                have hs3 := hb3.out.size
                by_cases hjS : j < S
                · by_cases hjP : j < P
                  · have hjI : (j : Int) < (P : Int) := by omega
                    have hkd : Hid (kd P j = 2) := if_pos hjI
                    obtain ⟨va3, l3, vc3, hv3⟩ := ho3.out.form2
                    subst hv3
                    go_wp2_with (at_builtin; refine app_OwnInts _ rfl _ _ rfl w.heap.size (.slice va3 l3 vc3) (.slice (some ⟨wr.heap.size, 0, none⟩) 1 1) (acc ++ 1 :: (List.range j).map (kd P)) [2] rfl rfl (ho3.out.tr ((Below.refl _ _).alloc (Nat.le_refl _) _)) (one_ints _ _) ?c0 ?c1 ?c2)
                    case c0 => have := HM2.out; first | omega | (simp; omega)
                    case c1 => first | omega | (simp; omega)
                    case c2 =>
                    intro v4 w4 ho4 hg4 hat4
                    have hne4 : Hid (v4.ownBlock ≠ some oB) := fun e => by
                      rcases hat4 with h | h
                      · rw [h] at e; exact hne3.out e
                      · rw [h] at e; simp at e; omega
                    have HK4 := Lib.hid (blk_row (hk3.out.alloc (.cells #[.int .i64 2] 3)) hg4 hne3.out)
                    have HB4 : Hid (Below w.heap.size w w4) := grown_own (hb3.out.alloc hs3 _) (ho3.out.tr ((Below.refl _ _).alloc (Nat.le_refl _) _)) hg4
                    rw [kinds_snoc hkd.out] at ho4
                    have HO4 := Lib.hid ho4
                    clear ho4 hg4 hat4 lo co fo
                    go_wp2_with fail
                    exact ⟨⟨j + 1, by omega, by go_num, HO4.out, HK4.out, hne4.out, HB4.out⟩, by simp [intOf]; omega⟩
                  · have hjI : ¬ (j : Int) < (P : Int) := by omega
                    have hkd : Hid (kd P j = 3) := if_neg hjI
                    obtain ⟨va3, l3, vc3, hv3⟩ := ho3.out.form2
                    subst hv3
                    go_wp2_with (at_builtin; refine app_OwnInts _ rfl _ _ rfl w.heap.size (.slice va3 l3 vc3) (.slice (some ⟨wr.heap.size, 0, none⟩) 1 1) (acc ++ 1 :: (List.range j).map (kd P)) [3] rfl rfl (ho3.out.tr ((Below.refl _ _).alloc (Nat.le_refl _) _)) (one_ints _ _) ?c0 ?c1 ?c2)
                    case c0 => have := HM2.out; first | omega | (simp; omega)
                    case c1 => first | omega | (simp; omega)
                    case c2 =>
                    intro v4 w4 ho4 hg4 hat4
                    have hne4 : Hid (v4.ownBlock ≠ some oB) := fun e => by
                      rcases hat4 with h | h
                      · rw [h] at e; exact hne3.out e
                      · rw [h] at e; simp at e; omega
                    have HK4 := Lib.hid (blk_row (hk3.out.alloc (.cells #[.int .i64 3] 3)) hg4 hne3.out)
                    have HB4 : Hid (Below w.heap.size w w4) := grown_own (hb3.out.alloc hs3 _) (ho3.out.tr ((Below.refl _ _).alloc (Nat.le_refl _) _)) hg4
                    rw [kinds_snoc hkd.out] at ho4
                    have HO4 := Lib.hid ho4
                    clear ho4 hg4 hat4 lo co fo
                    go_wp2_with fail
                    exact ⟨⟨j + 1, by omega, by go_num, HO4.out, HK4.out, hne4.out, HB4.out⟩, by simp [intOf]; omega⟩
                · obtain rfl : j = S := by omega
                  go_wp2_with fail
                  trace_state
                  refine ⟨⟨k + 1, acc ++ kindO ⟨m, j, P, g, t⟩, by omega, by go_num, ?_, HR.out, ho3.out, hb3.out⟩, by simp [intOf]; omega⟩
                  have := HM2.out
                  simp [kindO]; omega
      · have h1b : (p0 == (m : Int)) = false := beq_eq_false_iff_ne.mpr h1
        have HR : Hid (kindsF len os [] = none) := HS.out.trans (if_pos (.inl (by show p0 ≠ _; rw [hm]; exact h1)))
        go_wp2_with fail
        go_ret2
        refine ⟨by rw [HR.out]; rfl, ?_⟩
        have := HBR.out
        (repeat (first | with_reducible exact Below.refl _ _ | with_reducible refine kp_alloc ?_ _ | with_reducible refine kp_drew ?_ | with_reducible refine kp_set ?_ (by first | omega | (simp; done) | (simp; omega)) _ | with_reducible refine kp_tr ?_ (by with_reducible assumption)))
    · obtain rfl : k = n := by omega
      have HR : Hid (kindsF len os [] = if acc.length = len then some acc else none) := hres.out.trans (by rw [List.drop_of_length_le (by have := HN.out; omega)]; rfl)
      clear hown hbr hres
      generalize hm : acc.length = m at *
      clear hm
      by_cases hml : m = len
      · subst hml
        have hb1 : ((m : Int) == (m : Int)) = true := by simp
        go_wp2_with fail
        go_ret2
        exact ⟨by rw [HR.out]; first | rw [if_pos rfl] | rw [if_pos trivial]; exact ⟨_, rfl, HO.out⟩, HBR.out⟩
      · have hb1 : ((m : Int) == (len : Int)) = false := beq_eq_false_iff_ne.mpr (by omega)
        go_wp2_with fail
        go_ret2
        exact ⟨by rw [HR.out, if_neg hml]; rfl, HBR.out⟩
end Go.Proofs.YtpgjploaliefdaaGreat.ob
