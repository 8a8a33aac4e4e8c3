/- objects.Walk, objects.WalkOld: contracts. No conditions. -/
import Derived.Test.YtpgjploaliefdaaGreatOy
namespace Go.Proofs.YtpgjploaliefdaaGreat.ob
open Go.RowKit Go.Shelf Go.Proofs.YtpgjploaliefdaaGreat.hd Go.Proofs.YtpgjploaliefdaaGreat.rt
set_option linter.unusedVariables false
set_option linter.unusedSimpArgs false
def bgN (k pos : Nat) (x : Int) : Option (Ob × Nat) := if unOk x then some (⟨pos, unS x, unP x, false, 0⟩, k) else none
theorem unS_small {x : Int} (h : unOk x = true) : 0 ≤ unS x ∧ unS x ≤ 255 := by
  have h2 := h
  simp only [unOk, rightB, Bool.and_eq_true, decide_eq_true_eq] at h2
  simp only [unS, h, if_true]
  omega
theorem begins_nil (b off len cap : Nat) (zs : List Int) (hl : len < 9223372036854775808) (hz : ∀ i, 0 ≤ zs.getD i 0 ∧ zs.getD i 0 < 18446744073709551616) :
    BeginOk b off len cap zs .nilFunc (fun _ _ => True) bgN none := by
  refine ⟨fun _ _ _ _ _ => trivial, fun k pos x o k' h => ?_, fun k pos W hp _ hw => ?_⟩
  · unfold bgN at h
    split at h
    · rename_i hu
      cases h
      exact ⟨rfl, unS_small hu⟩
    · cases h
  · refine (begin_nil b off len cap pos _ W hp hl (hw.at pos hp) (hz pos).1 (hz pos).2).mono ?_
    rintro e W' ⟨h, hb⟩
    refine ⟨below_grown hb none, ?_⟩
    rcases h with ⟨hu, rfl⟩ | ⟨hu, rfl⟩
    · exact .inl ⟨_, k, by unfold bgN; rw [if_pos hu], rfl, trivial⟩
    · exact .inr ⟨by unfold bgN; rw [if_neg (by rw [hu]; simp)], rfl, trivial⟩
theorem grown_below {A B : World} (h : A.grownBy B none) : Below A.heap.size A B := ⟨h.os, h.tape, h.output, h.size, fun k hk => h.block k hk (by simp)⟩
/-- What Walk hands back, in a world of its own. -/
def WalkedAs (B : Nat) (r : Res) (e : Ending) (W' : World) : Prop :=
  match r with
  | .ok l k => ∃ v, e = .returned (.tuple #[v, .int .i64 0]) ∧ ObsAt W' B v l
  | .err c k => e = .returned (.tuple #[.slice none 0 0, .int .i64 c])
theorem Walk_any (b off len cap : Nat) (ad : Option Addr) (zs : List Int) (had : 0 < len → ad = some ⟨b, off, none⟩) (hlc : len ≤ cap) (hcap : cap < 9223372036854775808 ∧ len < 1000000000000) (hz : ∀ i, 0 ≤ zs.getD i 0 ∧ zs.getD i 0 < 18446744073709551616) (w : World) (hW : WordsAt w b off len zs) :
    Calls Tryz.prog 107 #[.slice ad len cap] w fun e W' => WalkedAs (w.heap.size + 6) (walkF bgN zs len (len + 1) 0 0 []) e W' ∧ Below w.heap.size w W' := by
  have hwk := walk_any b off len cap ad zs .nilFunc (fun _ _ => True) bgN none (begins_nil b off len cap zs (by omega) hz) had hlc hcap hz (.inl rfl) w hW trivial (fun r e => by cases e) (fun _ _ _ _ _ => trivial)
  rcases hr : walkF bgN zs len (len + 1) 0 0 [] with ⟨l, k⟩ | ⟨c, k⟩
  · rw [hr] at hwk
    have HW := Lib.hid hwk
    clear hwk hr hW hz
    go_enter Tryz.func107, Tryz.ntmps107
    go_wp2_with fail
    refine HW.out.mono ?_
    rintro e W' ⟨hg, _, v, rfl, ho⟩
    go_wp2_with fail
    go_ret2
    exact ⟨⟨v, rfl, ho⟩, grown_below hg⟩
  · rw [hr] at hwk
    have HW := Lib.hid hwk
    clear hwk hr hW hz
    go_enter Tryz.func107, Tryz.ntmps107
    go_wp2_with fail
    refine HW.out.mono ?_
    rintro e W' ⟨hg, _, rfl⟩
    go_wp2_with fail
    go_ret2
    exact ⟨rfl, grown_below hg⟩
/-- Shapes in a row: two cells each. -/
def ShapesAt (W : World) (b off n : Nat) (ss : List (Int × Int)) : Prop := ∀ i, i < n → W.cell? ⟨b, off + i * 2, none⟩ = some (.int .i64 (ss.getD i (0, 0)).1) ∧ W.cell? ⟨b, off + i * 2 + 1, none⟩ = some (.int .i64 (ss.getD i (0, 0)).2)
theorem ShapesAt.block {A B : World} {b off n : Nat} {ss : List (Int × Int)} (h : ShapesAt A b off n ss) (hb : B.heap[b]? = A.heap[b]?) : ShapesAt B b off n ss := fun i hi => by
  obtain ⟨h1, h2⟩ := h i hi
  exact ⟨by rw [← h1]; simp [World.cell?, hb], by rw [← h2]; simp [World.cell?, hb]⟩
theorem ShapesAt.at {A : World} {b off n : Nat} {ss : List (Int × Int)} (h : ShapesAt A b off n ss) (i : Nat) (hi : i < n) : A.cell? ⟨b, off + i * 2, none⟩ = some (.int .i64 (ss.getD i (0, 0)).1) ∧ A.cell? ⟨b, off + i * 2 + 1, none⟩ = some (.int .i64 (ss.getD i (0, 0)).2) := h i hi
theorem ShapesAt.lt {A : World} {b off n : Nat} {ss : List (Int × Int)} (h : ShapesAt A b off n ss) (h0 : 0 < n) : b < A.heap.size := World.block_lt_of_cell? _ _ (h 0 h0).1
theorem ShapesAt.none (W : World) (b off : Nat) (ss : List (Int × Int)) : ShapesAt W b off 0 ss := fun i hi => absurd hi (Nat.not_lt_zero _)
attribute [irreducible] ShapesAt
/-- The closure of WalkOld: so many shapes have been taken. -/
structure TakenAt (Bt Bs sb so n scap : Nat) (sad : Option Addr) (ss : List (Int × Int)) (k : Nat) (W : World) : Prop where
  kn : k ≤ n
  t : Blk W Bt #[.int .i64 k] 3
  s : Blk W Bs #[.slice sad n scap] 39
  c : ShapesAt W sb so n ss
  ne : sb ≠ Bt ∨ n = 0
theorem grown_set {w A : World} {row : Option Nat} (h : w.grownBy A row) (p : Addr) (hp : w.heap.size ≤ p.block ∨ some p.block = row) (v : Value) : w.grownBy (A.setCell p v) row :=
  ⟨h.os, h.tape, h.output, by simpa using h.size, fun k hk hne => (Below.heap_setCell A p v k (fun e => hp.elim (fun h1 => by omega) (fun h1 => hne (by rw [e]; exact h1)))).trans (h.block k hk hne)⟩
theorem gone_any (Bt Bs sb so n scap : Nat) (sad : Option Addr) (ss : List (Int × Int)) (k : Nat) (w : World) (h : TakenAt Bt Bs sb so n scap sad ss k w) (hts : Bt ≠ Bs) (had : 0 < n → sad = some ⟨sb, so, none⟩) (hn : n < 1000000000000) :
    Calls Tryz.prog 123 #[.pointer (some ⟨Bt, 0, none⟩), .pointer (some ⟨Bs, 0, none⟩)] w fun e W' => w.grownBy W' (some Bt) ∧
      ((k < n ∧ rightB (ss.getD k (0, 0)).1 (ss.getD k (0, 0)).2 = true ∧ e = .returned (.agg #[.int .i64 (ss.getD k (0, 0)).1, .int .i64 (ss.getD k (0, 0)).2]) ∧ TakenAt Bt Bs sb so n scap sad ss (k + 1) W') ∨
       (¬ (k < n ∧ rightB (ss.getD k (0, 0)).1 (ss.getD k (0, 0)).2 = true) ∧ e = .panicked [{ v := wrongV 3, recovered := false }] ∧ TakenAt Bt Bs sb so n scap sad ss k W')) := by
  obtain ⟨hkn, ht, hs, hc, hne⟩ := h
  obtain ⟨lt, ct, ft⟩ := ht.get
  obtain ⟨ls, cs, fs⟩ := hs.get
  have ct0 := ct 0
  have cs0 := cs 0
  have q0 : Bt ≠ w.heap.size := by omega
  have q1 : Bs ≠ w.heap.size := by omega
  by_cases hk : k < n
  · obtain rfl := had (by omega)
    obtain ⟨c1, c2⟩ := hc.at k hk
    generalize (ss.getD k (0, 0)).1 = S at *
    generalize (ss.getD k (0, 0)).2 = Pp at *
    have hkb : ((k : Int) == (n : Int)) = false := beq_eq_false_iff_ne.mpr (by omega)
    have hsb : sb < w.heap.size := hc.lt (by omega)
    go_enter Tryz.func123, Tryz.ntmps123
    go_wp2_with fail
    refine (right_any S Pp _).mono ?_; rintro e w1 ⟨rfl, k1⟩
    have ht1 : Blk w1 Bt #[.int .i64 k] 3 := (ht.alloc _).tr k1
    have hs1 : Blk w1 Bs #[.slice (some ⟨sb, so, none⟩) n scap] 39 := (hs.alloc _).tr k1
    have hr1 : Blk w1 w.heap.size #[.int .i64 0, .int .i64 0] 56 := Blk.tr (by (repeat (first | with_reducible assumption | exact Blk.mk rfl | exact Blk.mk (by simp) | refine Blk.drew ?_ | refine Blk.alloc ?_ _ | refine Blk.tr ?_ (by with_reducible assumption)))) k1
    have hc1 : ShapesAt w1 sb so n ss := hc.block ((k1.block sb (by simp; omega)).trans (Below.heap_alloc _ _ _ hsb))
    have hbb : Below w.heap.size w w1 := by (repeat (first | with_reducible exact Below.refl _ _ | with_reducible refine kp_alloc ?_ _ | with_reducible refine kp_drew ?_ | with_reducible refine kp_set ?_ (by first | omega | (simp; done) | (simp; omega)) _ | with_reducible refine kp_tr ?_ (by with_reducible assumption)))
    have d1 := cell_tr hbb c1
    have d2 := cell_tr hbb c2
    rcases hrb : rightB S Pp with _ | _
    · go_wp2_with fail
      refine ⟨rfl, below_grown hbb _, .inr ⟨by simp [hrb], rfl, ⟨hkn, ht1, hs1, hc1, hne⟩⟩⟩
    · clear lt ct ft ls cs fs ct0 cs0
      obtain ⟨lt, ct, ft⟩ := ht1.get
      obtain ⟨ls, cs, fs⟩ := hs1.get
      obtain ⟨lr, cr, fr⟩ := hr1.get
      have ct0 := ct 0
      have cs0 := cs 0
      go_wp2_with fail
      refine bodyPost_ret (v := .agg #[.int .i64 S, .int .i64 Pp]) (by simp only [results, Tryz.results123]; go_simp) rfl ⟨?_, .inl ⟨hk, hrb, rfl, ⟨by omega, ?_, ?_, ?_, hne⟩⟩⟩
      · exact grown_set (grown_set (grown_set (below_grown hbb _) _ (.inr rfl) _) _ (.inl (Nat.le_refl _)) _) _ (.inl (Nat.le_refl _)) _
      · have := ((ht1.set 0 (.int .i64 ((k : Int) + 1))).other (p := ⟨w.heap.size, 0, none⟩) q0 (.int .i64 S)).other (p := ⟨w.heap.size, 1, none⟩) q0 (.int .i64 Pp)
        simpa using this
      · exact ((hs1.other (p := ⟨Bt, 0, none⟩) (fun e => hts e.symm) _).other (p := ⟨w.heap.size, 0, none⟩) q1 _).other (p := ⟨w.heap.size, 1, none⟩) q1 _
      · refine hc1.block ((Below.heap_setCell _ _ _ _ (by show sb ≠ w.heap.size; omega)).trans ((Below.heap_setCell _ _ _ _ (by show sb ≠ w.heap.size; omega)).trans (Below.heap_setCell _ _ _ _ ?_)))
        rcases hne with h | h
        · exact h
        · omega
  · have hkb : ((k : Int) == (n : Int)) = true := by simp; omega
    go_enter Tryz.func123, Tryz.ntmps123
    go_wp2_with fail
    refine ⟨rfl, below_grown (by (repeat (first | with_reducible exact Below.refl _ _ | with_reducible refine kp_alloc ?_ _ | with_reducible refine kp_drew ?_ | with_reducible refine kp_set ?_ (by first | omega | (simp; done) | (simp; omega)) _ | with_reducible refine kp_tr ?_ (by with_reducible assumption)))) _, .inr ⟨fun q => hk q.1, rfl, ⟨hkn, ht.alloc _, hs.alloc _, ?_, hne⟩⟩⟩
    rcases Nat.eq_zero_or_pos n with h0 | h0
    · subst h0; exact ShapesAt.none _ _ _ _
    · exact hc.block (Below.heap_alloc _ _ _ (hc.lt h0))
end Go.Proofs.YtpgjploaliefdaaGreat.ob
