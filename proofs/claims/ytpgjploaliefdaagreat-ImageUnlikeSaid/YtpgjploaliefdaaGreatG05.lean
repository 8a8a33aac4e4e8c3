/- objects.Walk, objects.WalkOld: contracts. No conditions. -/
import Derived.Test.YtpgjploaliefdaaGreatG04
namespace Go.Proofs.YtpgjploaliefdaaGreat.ob
open Go.RowKit Go.Shelf hd rt
set_option linter.unusedVariables false
set_option linter.unusedSimpArgs false
def bgN (k pos : Nat) (x : Int) : Option (Ob × Nat) := if unOk x then some (⟨pos, unS x, unP x, false, 0⟩, k) else none
theorem unS_small {x : Int} (h : unOk x = true) : 0 ≤ unS x ∧ unS x ≤ 255 := by
 have h2 := h
 simp only [unOk, rightB, Bool.and_eq_true, decide_eq_true_eq] at h2
 simp only [unS, h, if_true]
 omega
theorem begins_nil (b off len cap : Nat) (zs : List Int) (hl : len < 9223372036854775808) (hz : ∀ i, 0 ≤ zs.getD i 0 ∧ zs.getD i 0 < 18446744073709551616) :
  BeginOk b off len cap zs .nilFunc (fun _ _ => True) bgN none := by
 refine ⟨fun _ _ _ _ _ => trivial, fun k pos x o k' h => ?_, fun k pos W hp _ hw => ?_⟩
 ·unfold bgN at h
  split at h
  ·rename_i hu
   cases h
   exact ⟨rfl, unS_small hu⟩
  ·cases h
 ·refine (begin_nil b off len cap pos _ W hp hl (hw.at pos hp) (hz pos).1 (hz pos).2).mono ?_
  rintro e W' ⟨h, hb⟩
  refine ⟨below_grown hb none, ?_⟩
  rcases h with ⟨hu, rfl⟩ | ⟨hu, rfl⟩
  ·exact .inl ⟨_, k, by unfold bgN; rw [if_pos hu], rfl, trivial⟩
  ·exact .inr ⟨by unfold bgN; rw [if_neg (by rw [hu]; simp)], rfl, trivial⟩
theorem grown_below {A B : World} (h : A.grownBy B none) : Below A.heap.size A B := ⟨h.os, h.tape, h.output, h.size, fun k hk => h.block k hk (by simp)⟩
def WalkedAs (B : Nat) (r : Res) (e : Ending) (W' : World) : Prop :=
 match r with
 | .ok l k => ∃ v, e = .returned (.tuple #[v, .int .i64 0]) ∧ ObsAt W' B v l
 | .err c k => e = .returned (.tuple #[.slice none 0 0, .int .i64 c])
theorem Walk_any (b off len cap : Nat) (ad : Option Addr) (zs : List Int) (had : 0 < len → ad = some ⟨b, off, none⟩) (hlc : len ≤ cap) (hcap : cap < 9223372036854775808 ∧ len < 1000000000000) (hz : ∀ i, 0 ≤ zs.getD i 0 ∧ zs.getD i 0 < 18446744073709551616) (w : World) (hW : WordsAt w b off len zs) :
  Calls Tryz.prog 107 #[.slice ad len cap] w fun e W' => WalkedAs (w.heap.size + 6) (walkF bgN zs len (len + 1) 0 0 []) e W' ∧ Below w.heap.size w W' := by
 have hwk := walk_any b off len cap ad zs .nilFunc (fun _ _ => True) bgN none (begins_nil b off len cap zs (by omega) hz) had hlc hcap hz (.inl rfl) w hW trivial (fun r e => by cases e) (fun _ _ _ _ _ => trivial)
 rcases hr : walkF bgN zs len (len + 1) 0 0 [] with ⟨l, k⟩ | ⟨c, k⟩
 ·rw [hr] at hwk
  have HW := Lib.hid hwk
  clear hwk hr hW hz
  go_enter Tryz.func107, Tryz.ntmps107
  go_wp2_with fail
  refine HW.out.mono ?_
  rintro e W' ⟨hg, _, v, rfl, ho⟩
  go_wp2_with fail
  go_ret2
  exact ⟨⟨v, rfl, ho⟩, grown_below hg⟩
 ·rw [hr] at hwk
  have HW := Lib.hid hwk
  clear hwk hr hW hz
  go_enter Tryz.func107, Tryz.ntmps107
  go_wp2_with fail
  refine HW.out.mono ?_
  rintro e W' ⟨hg, _, rfl⟩
  go_wp2_with fail
  go_ret2
  exact ⟨rfl, grown_below hg⟩
def ShapesAt (W : World) (b off n : Nat) (ss : List (Int × Int)) : Prop := ∀ i, i < n → W.cell? ⟨b, off + i * 2, none⟩ = some (.int .i64 (ss.getD i (0, 0)).1) ∧ W.cell? ⟨b, off + i * 2 + 1, none⟩ = some (.int .i64 (ss.getD i (0, 0)).2)
theorem ShapesAt.block {A B : World} {b off n : Nat} {ss : List (Int × Int)} (h : ShapesAt A b off n ss) (hb : B.heap[b]? = A.heap[b]?) : ShapesAt B b off n ss := fun i hi => by
 obtain ⟨h1, h2⟩ := h i hi
 exact ⟨by rw [← h1]; simp [World.cell?, hb], by rw [← h2]; simp [World.cell?, hb]⟩
theorem ShapesAt.at {A : World} {b off n : Nat} {ss : List (Int × Int)} (h : ShapesAt A b off n ss) (i : Nat) (hi : i < n) : A.cell? ⟨b, off + i * 2, none⟩ = some (.int .i64 (ss.getD i (0, 0)).1) ∧ A.cell? ⟨b, off + i * 2 + 1, none⟩ = some (.int .i64 (ss.getD i (0, 0)).2) := h i hi
theorem ShapesAt.lt {A : World} {b off n : Nat} {ss : List (Int × Int)} (h : ShapesAt A b off n ss) (h0 : 0 < n) : b < A.heap.size := World.block_lt_of_cell? _ _ (h 0 h0).1
theorem ShapesAt.none (W : World) (b off : Nat) (ss : List (Int × Int)) : ShapesAt W b off 0 ss := fun i hi => absurd hi (Nat.not_lt_zero _)
attribute [irreducible] ShapesAt
structure TakenAt (Bt Bs sb so n scap : Nat) (sad : Option Addr) (ss : List (Int × Int)) (k : Nat) (W : World) : Prop where
 kn : k ≤ n
 t : Blk W Bt #[.int .i64 k] 3
 s : Blk W Bs #[.slice sad n scap] 39
 c : ShapesAt W sb so n ss
 ne : sb ≠ Bt ∨ n = 0
theorem grown_set {w A : World} {row : Option Nat} (h : w.grownBy A row) (p : Addr) (hp : w.heap.size ≤ p.block ∨ some p.block = row) (v : Value) : w.grownBy (A.setCell p v) row :=
 ⟨h.os, h.tape, h.output, by simpa using h.size, fun k hk hne => (Below.heap_setCell A p v k (fun e => hp.elim (fun h1 => by omega) (fun h1 => hne (by rw [e]; exact h1)))).trans (h.block k hk hne)⟩
theorem gone_any (Bt Bs sb so n scap : Nat) (sad : Option Addr) (ss : List (Int × Int)) (k : Nat) (w : World) (h : TakenAt Bt Bs sb so n scap sad ss k w) (hts : Bt ≠ Bs) (had : 0 < n → sad = some ⟨sb, so, none⟩) (hn : n < 1000000000000) :
  Calls Tryz.prog 123 #[.pointer (some ⟨Bt, 0, none⟩), .pointer (some ⟨Bs, 0, none⟩)] w fun e W' => w.grownBy W' (some Bt) ∧
   ((k < n ∧ rightB (ss.getD k (0, 0)).1 (ss.getD k (0, 0)).2 = true ∧ e = .returned (.agg #[.int .i64 (ss.getD k (0, 0)).1, .int .i64 (ss.getD k (0, 0)).2]) ∧ TakenAt Bt Bs sb so n scap sad ss (k + 1) W') ∨
    (¬ (k < n ∧ rightB (ss.getD k (0, 0)).1 (ss.getD k (0, 0)).2 = true) ∧ e = .panicked [{ v := wrongV 3, recovered := false }] ∧ TakenAt Bt Bs sb so n scap sad ss k W')) := by
 obtain ⟨hkn, ht, hs, hc, hne⟩ := h
 obtain ⟨lt, ct, ft⟩ := ht.get
 obtain ⟨ls, cs, fs⟩ := hs.get
 have ct0 := ct 0
 have cs0 := cs 0
 have q0 : Bt ≠ w.heap.size := by omega
 have q1 : Bs ≠ w.heap.size := by omega
 by_cases hk : k < n
 ·obtain rfl := had (by omega)
  obtain ⟨c1, c2⟩ := hc.at k hk
  generalize (ss.getD k (0, 0)).1 = S at *
  generalize (ss.getD k (0, 0)).2 = Pp at *
  have hkb : ((k : Int) == (n : Int)) = false := beq_eq_false_iff_ne.mpr (by omega)
  have hsb : sb < w.heap.size := hc.lt (by omega)
  go_enter Tryz.func123, Tryz.ntmps123
  go_wp2_with fail
  refine (right_any S Pp _).mono ?_; rintro e w1 ⟨rfl, k1⟩
  have ht1 : Blk w1 Bt #[.int .i64 k] 3 := (ht.alloc _).tr k1
  have hs1 : Blk w1 Bs #[.slice (some ⟨sb, so, none⟩) n scap] 39 := (hs.alloc _).tr k1
  have hr1 : Blk w1 w.heap.size #[.int .i64 0, .int .i64 0] 56 := Blk.tr (by exact bk) k1
  have hc1 : ShapesAt w1 sb so n ss := hc.block ((k1.block sb (by simp; omega)).trans (Below.heap_alloc _ _ _ hsb))
  have hbb : Below w.heap.size w w1 := by exact bm
  have d1 := cell_tr hbb c1
  have d2 := cell_tr hbb c2
  rcases hrb : rightB S Pp with _ | _
  ·go_wp2_with fail
   refine ⟨rfl, below_grown hbb _, .inr ⟨by simp [hrb], rfl, ⟨hkn, ht1, hs1, hc1, hne⟩⟩⟩
  ·clear lt ct ft ls cs fs ct0 cs0
   obtain ⟨lt, ct, ft⟩ := ht1.get
   obtain ⟨ls, cs, fs⟩ := hs1.get
   obtain ⟨lr, cr, fr⟩ := hr1.get
   have ct0 := ct 0
   have cs0 := cs 0
   go_wp2_with fail
   refine bodyPost_ret (v := .agg #[.int .i64 S, .int .i64 Pp]) (by simp only [results, Tryz.results123]; go_simp) rfl ⟨?_, .inl ⟨hk, hrb, rfl, ⟨by omega, ?_, ?_, ?_, hne⟩⟩⟩
   ·exact grown_set (grown_set (grown_set (below_grown hbb _) _ (.inr rfl) _) _ (.inl (Nat.le_refl _)) _) _ (.inl (Nat.le_refl _)) _
   ·have := ((ht1.set 0 (.int .i64 ((k : Int) + 1))).other (p := ⟨w.heap.size, 0, none⟩) q0 (.int .i64 S)).other (p := ⟨w.heap.size, 1, none⟩) q0 (.int .i64 Pp)
    simpa using this
   ·exact ((hs1.other (p := ⟨Bt, 0, none⟩) (fun e => hts e.symm) _).other (p := ⟨w.heap.size, 0, none⟩) q1 _).other (p := ⟨w.heap.size, 1, none⟩) q1 _
   ·refine hc1.block ((Below.heap_setCell _ _ _ _ (by show sb ≠ w.heap.size; omega)).trans ((Below.heap_setCell _ _ _ _ (by show sb ≠ w.heap.size; omega)).trans (Below.heap_setCell _ _ _ _ ?_)))
    rcases hne with h | h
    ·exact h
    ·omega
 ·have hkb : ((k : Int) == (n : Int)) = true := by simp; omega
  go_enter Tryz.func123, Tryz.ntmps123
  go_wp2_with fail
  refine ⟨rfl, below_grown (by exact bm) _, .inr ⟨fun q => hk q.1, rfl, ⟨hkn, ht.alloc _, hs.alloc _, ?_, hne⟩⟩⟩
  rcases Nat.eq_zero_or_pos n with h0 | h0
  ·subst h0; exact ShapesAt.none _ _ _ _
  ·exact hc.block (Below.heap_alloc _ _ _ (hc.lt h0))
end Go.Proofs.YtpgjploaliefdaaGreat.ob
namespace Go.Proofs.YtpgjploaliefdaaGreat.ob
open Go.RowKit Go.Shelf hd rt
set_option linter.unusedVariables false
set_option linter.unusedSimpArgs false
def bgO (n : Nat) (ss : List (Int × Int)) (k pos : Nat) (x : Int) : Option (Ob × Nat) :=
 if adE x = 0 then (if k < n ∧ rightB (ss.getD k (0, 0)).1 (ss.getD k (0, 0)).2 = true then some (⟨pos, (ss.getD k (0, 0)).1, (ss.getD k (0, 0)).2, true, adV x⟩, k + 1) else none) else bgN k pos x
theorem TakenAt.grown {Bt Bs sb so n scap k : Nat} {sad : Option Addr} {ss : List (Int × Int)} {A B : World} (h : TakenAt Bt Bs sb so n scap sad ss k A) (hg : A.grownBy B none) : TakenAt Bt Bs sb so n scap sad ss k B := by
 have hb := grown_below hg
 refine ⟨h.kn, h.t.tr hb, h.s.tr hb, ?_, h.ne⟩
 rcases Nat.eq_zero_or_pos n with h0 | h0
 ·subst h0; exact ShapesAt.none _ _ _ _
 ·exact h.c.block (hb.block sb (h.c.lt h0))
theorem TakenAt.set {Bt Bs sb so n scap k : Nat} {sad : Option Addr} {ss : List (Int × Int)} {A : World} (h : TakenAt Bt Bs sb so n scap sad ss k A) (p : Addr) (hp : p.block ≠ Bt ∧ p.block ≠ Bs ∧ (0 < n → p.block ≠ sb)) (v : Value) : TakenAt Bt Bs sb so n scap sad ss k (A.setCell p v) := by
 refine ⟨h.kn, h.t.other (fun e => hp.1 e.symm) _, h.s.other (fun e => hp.2.1 e.symm) _, ?_, h.ne⟩
 rcases Nat.eq_zero_or_pos n with h0 | h0
 ·subst h0; exact ShapesAt.none _ _ _ _
 ·exact h.c.block (Below.heap_setCell _ _ _ _ (fun e => hp.2.2 h0 e.symm))
theorem far_of {Bt Bs sb n m j : Nat} (h1 : Bt < m) (h2 : Bs < m) (h3 : 0 < n → sb < m) (h : m ≤ j) : j ≠ Bt ∧ j ≠ Bs ∧ (0 < n → j ≠ sb) := ⟨by omega, by omega, fun q => by have := h3 q; omega⟩
theorem adE_even {x : Int} (h : ¬ adE x = 0) : (adE x == 0) = false := by simp [h]
set_option maxHeartbeats 2000000 in
theorem begin_old (Bt Bs sb so n scap : Nat) (sad : Option Addr) (ss : List (Int × Int)) (hts : Bt ≠ Bs) (had : 0 < n → sad = some ⟨sb, so, none⟩) (hn : n < 1000000000000)
  (b off len cap pos k : Nat) (x : Int) (w : World) (hbt : b ≠ Bt) (hp : pos < len) (hl : len < 9223372036854775808) (hx : w.cell? ⟨b, off + pos, none⟩ = some (.int .u64 x)) (h1 : 0 ≤ x) (h2 : x < 18446744073709551616) (hT : TakenAt Bt Bs sb so n scap sad ss k w) :
  Calls Tryz.prog 136 #[.slice (some ⟨b, off, none⟩) len cap, .int .i64 pos, .func (.func 123) #[] #[.pointer (some ⟨Bt, 0, none⟩), .pointer (some ⟨Bs, 0, none⟩)]] w fun e W' => w.grownBy W' (some Bt) ∧
   ((∃ o k', bgO n ss k pos x = some (o, k') ∧ e = .returned (oV o) ∧ TakenAt Bt Bs sb so n scap sad ss k' W') ∨ (bgO n ss k pos x = none ∧ e = .panicked [{ v := wrongV 3, recovered := false }] ∧ TakenAt Bt Bs sb so n scap sad ss k W')) := by
 have hlt : b < w.heap.size := World.block_lt_of_cell? _ _ hx
 have hn0 : b ≠ w.heap.size := by omega
 have hn1 : b ≠ w.heap.size + 1 := by omega
 have hs0 : b < w.heap.size + 1 := by omega
 have hs1 : b < w.heap.size + 1 + 1 := by omega
 have hnn := fn_some
 have htl := hT.t.lt
 have hsl := hT.s.lt
 have hcl : 0 < n → sb < w.heap.size := fun h => hT.c.lt h
 have hHcl := Lib.hid hcl
 clear hcl
 by_cases hE : adE x = 0
 ·have hE2 : (adE x == 0) = true := by simp [hE]
  have HB := Lib.hid (show bgO n ss k pos x = if k < n ∧ rightB (ss.getD k (0, 0)).1 (ss.getD k (0, 0)).2 = true then some (⟨pos, (ss.getD k (0, 0)).1, (ss.getD k (0, 0)).2, true, adV x⟩, k + 1) else none from by unfold bgO; rw [if_pos hE])
  go_enter Tryz.func136, Tryz.ntmps136
  go_wp2_with fail
  refine (addr_any x _ h1 h2).mono ?_; rintro e ww ⟨rfl, rfl⟩
  go_wp2_with fail
  have hT2 := (hT.grown (World.grownBy_alloc w (.cells #[.int .i64 0, .int .i64 0, .int .i64 0, .bool false, .int .u64 0] 58) none)).grown (World.grownBy_alloc _ (.cells #[.int .i64 pos, .int .i64 0, .int .i64 0, .bool true, .int .u64 (adV x)] 58) none)
  have hg0 : w.grownBy ((w.alloc (.cells #[.int .i64 0, .int .i64 0, .int .i64 0, .bool false, .int .u64 0] 58)).alloc (.cells #[.int .i64 pos, .int .i64 0, .int .i64 0, .bool true, .int .u64 (adV x)] 58)) (some Bt) := AllocG (World.grownBy_alloc _ _ _) _
  have hr0 : Blk ((w.alloc (.cells #[.int .i64 0, .int .i64 0, .int .i64 0, .bool false, .int .u64 0] 58)).alloc (.cells #[.int .i64 pos, .int .i64 0, .int .i64 0, .bool true, .int .u64 (adV x)] 58)) w.heap.size #[.int .i64 0, .int .i64 0, .int .i64 0, .bool false, .int .u64 0] 58 := (Blk.new _ _ _).alloc _
  have ho0 : Blk ((w.alloc (.cells #[.int .i64 0, .int .i64 0, .int .i64 0, .bool false, .int .u64 0] 58)).alloc (.cells #[.int .i64 pos, .int .i64 0, .int .i64 0, .bool true, .int .u64 (adV x)] 58)) (w.heap.size + 1) #[.int .i64 pos, .int .i64 0, .int .i64 0, .bool true, .int .u64 (adV x)] 58 := Blk.mk (by simp)
  refine (gone_any Bt Bs sb so n scap sad ss k _ hT2 hts had hn).mono ?_
  rintro e w1 ⟨hg1, ⟨hk, hrb, rfl, hT1⟩ | ⟨hk, rfl, hT1⟩⟩
  ·have hB2 : Hid (bgO n ss k pos x = some (⟨pos, (ss.getD k (0, 0)).1, (ss.getD k (0, 0)).2, true, adV x⟩, k + 1)) := by show _ = _; rw [HB.out, if_pos ⟨hk, hrb⟩]
   generalize (ss.getD k (0, 0)).1 = S at *
   generalize (ss.getD k (0, 0)).2 = Pp at *
   have hgg := Lib.hid (hg0.trans hg1)
   have hr1 : Blk w1 w.heap.size #[.int .i64 0, .int .i64 0, .int .i64 0, .bool false, .int .u64 0] 58 := Blk.of ((hg1.block _ hr0.lt (fun e => by cases e; omega)).trans hr0.raw)
   have ho1 : Blk w1 (w.heap.size + 1) #[.int .i64 pos, .int .i64 0, .int .i64 0, .bool true, .int .u64 (adV x)] 58 := Blk.of ((hg1.block _ ho0.lt (fun e => by cases e; omega)).trans ho0.raw)
   have hTT := Lib.hid hT1
   clear hg0 hg1 hT2 hT1 hr0 ho0 hT
   obtain ⟨lr, cr, fr⟩ := hr1.get
   obtain ⟨lo, co, fo⟩ := ho1.get
   go_wp2_with fail
   refine bodyPost_ret (v := oV ⟨pos, S, Pp, true, adV x⟩) (by simp only [results, Tryz.results136]; go_simp; rfl) rfl ⟨?_, .inl ⟨_, _, hB2.out, rfl, ?_⟩⟩
   ·repeat (first | with_reducible exact hgg.out | (with_reducible refine grown_set ?_ _ (.inl (by first | exact Nat.le_refl _ | exact Nat.le_succ _)) _))
   ·repeat (first | with_reducible exact hTT.out | (with_reducible refine TakenAt.set ?_ _ (far_of htl hsl hHcl.out (by first | exact Nat.le_refl _ | exact Nat.le_succ _)) _))
  ·have hB2 : bgO n ss k pos x = none := by rw [HB.out, if_neg hk]
   go_wp2_with fail
   exact ⟨rfl, hg0.trans hg1, .inr ⟨hB2, rfl, hT1⟩⟩
 ·have hE2 := adE_even hE
  have HB := Lib.hid (show bgO n ss k pos x = bgN k pos x from by unfold bgO; rw [if_neg hE])
  rcases hu : unOk x with _ | _
  ·have hE3 : unE x = 3 := by simp [unE, hu]
   go_enter Tryz.func136, Tryz.ntmps136
   go_wp2_with fail
   refine (addr_any x _ h1 h2).mono ?_; rintro e ww ⟨rfl, rfl⟩
   go_wp2_with fail
   refine (unpack_any x _ h1 h2).mono ?_; rintro e w1 ⟨rfl, k1⟩
   rw [hE3]
   go_wp2_with fail
   refine ⟨rfl, ?_, .inr ⟨by rw [HB.out]; unfold bgN; rw [if_neg (by rw [hu]; simp)], rfl, ?_⟩⟩
   ·refine below_grown ?_ _
    exact bm
   ·refine hT.grown (below_grown ?_ none)
    exact bm
  ·have hE3 : unE x = 0 := by simp [unE, hu]
   go_enter Tryz.func136, Tryz.ntmps136
   go_wp2_with fail
   refine (addr_any x _ h1 h2).mono ?_; rintro e ww ⟨rfl, rfl⟩
   go_wp2_with fail
   refine (unpack_any x _ h1 h2).mono ?_; rintro e w1 ⟨rfl, k1⟩
   rw [hE3]
   have Ko : Blk w1 (w.heap.size + 1) #[.int .i64 pos, .int .i64 0, .int .i64 0, .bool false, .int .u64 0] 58 := Blk.tr (by exact bk) k1
   have Kr : Blk w1 w.heap.size #[.int .i64 0, .int .i64 0, .int .i64 0, .bool false, .int .u64 0] 58 := Blk.tr (by exact bk) k1
   have hbb : Below w.heap.size w w1 := by exact bm
   have hTT := Lib.hid (hT.grown (below_grown hbb none))
   obtain ⟨lo, co, fo⟩ := Ko.get
   obtain ⟨lr, cr, fr⟩ := Kr.get
   go_wp2_with fail
   refine bodyPost_ret (v := oV ⟨pos, unS x, unP x, false, 0⟩) (by simp only [results, Tryz.results136]; go_simp; rfl) rfl ⟨?_, .inl ⟨_, k, by rw [HB.out]; unfold bgN; rw [if_pos hu], rfl, ?_⟩⟩
   ·refine below_grown ?_ _
    exact bm
   ·refine hT.grown (below_grown ?_ none)
    exact bm
theorem begins_old (Bt Bs sb so n scap : Nat) (sad : Option Addr) (ss : List (Int × Int)) (hts : Bt ≠ Bs) (had : 0 < n → sad = some ⟨sb, so, none⟩) (hn : n < 1000000000000)
  (b off len cap : Nat) (zs : List Int) (hbt : b ≠ Bt) (hl : len < 9223372036854775808) (hz : ∀ i, 0 ≤ zs.getD i 0 ∧ zs.getD i 0 < 18446744073709551616) :
  BeginOk b off len cap zs (.func (.func 123) #[] #[.pointer (some ⟨Bt, 0, none⟩), .pointer (some ⟨Bs, 0, none⟩)]) (TakenAt Bt Bs sb so n scap sad ss) (bgO n ss) (some Bt) := by
 refine ⟨fun k A B h hg => h.grown hg, fun k pos x o k' h => ?_, fun k pos W hp hT hw => begin_old Bt Bs sb so n scap sad ss hts had hn b off len cap pos k _ W hbt hp hl (hw.at pos hp) (hz pos).1 (hz pos).2 hT⟩
 unfold bgO at h
 split at h
 ·split at h
  ·rename_i hu
   cases h
   have h2 := rightB_t hu.2
   exact ⟨rfl, h2.1, h2.2.1⟩
  ·cases h
 ·unfold bgN at h
  split at h
  ·rename_i hu
   cases h
   exact ⟨rfl, unS_small hu⟩
  ·cases h
theorem walkF_err {bg : Nat → Nat → Int → Option (Ob × Nat)} {zs : List Int} {len : Nat} {c : Int} {k2 : Nat} : ∀ {f k pos : Nat} {acc : List Ob}, walkF bg zs len f k pos acc = .err c k2 → c ≠ 0
 | 0, k, pos, acc, h => by cases h; decide
 | f + 1, k, pos, acc, h => by
  by_cases hp : pos < len
  ·rw [walkF_step hp] at h
   split at h
   ·cases h; decide
   ·split at h
    ·cases h; decide
    ·split at h
     ·exact walkF_err h
     ·cases h; decide
  ·rw [walkF_end hp] at h; cases h
def oldRes (n : Nat) : Res → Res
 | .ok l k => if k < n then .err 3 k else .ok l k
 | .err c k => .err c k
theorem TakenAt.keep {Bt Bs sb so n scap k : Nat} {sad : Option Addr} {ss : List (Int × Int)} {A B : World} {m : Nat} (h : TakenAt Bt Bs sb so n scap sad ss k A) (h1 : Bt < m) (h2 : Bs < m) (h3 : 0 < n → sb < m) (hb : ∀ j, j < m → B.heap[j]? = A.heap[j]?) : TakenAt Bt Bs sb so n scap sad ss k B := by
 refine ⟨h.kn, Blk.of ((hb _ h1).trans h.t.raw), Blk.of ((hb _ h2).trans h.s.raw), ?_, h.ne⟩
 rcases Nat.eq_zero_or_pos n with h0 | h0
 ·subst h0; exact ShapesAt.none _ _ _ _
 ·exact h.c.block (hb _ (h3 h0))
theorem WalkOld_any (b off len cap : Nat) (ad : Option Addr) (zs : List Int) (had : 0 < len → ad = some ⟨b, off, none⟩) (hlc : len ≤ cap) (hcap : cap < 9223372036854775808 ∧ len < 1000000000000) (hz : ∀ i, 0 ≤ zs.getD i 0 ∧ zs.getD i 0 < 18446744073709551616)
  (sb so n scap : Nat) (sad : Option Addr) (ss : List (Int × Int)) (shad : 0 < n → sad = some ⟨sb, so, none⟩) (hn : n < 1000000000000) (w : World) (hW : WordsAt w b off len zs) (hS : ShapesAt w sb so n ss) (hb0 : b < w.heap.size) (hsb0 : sb < w.heap.size) :
  Calls Tryz.prog 109 #[.slice ad len cap, .slice sad n scap] w fun e W' => (∃ B, w.heap.size ≤ B ∧ WalkedAs B (oldRes n (walkF (bgO n ss) zs len (len + 1) 0 0 [])) e W') ∧ Below w.heap.size w W' := by
 have hmf : ∀ (fn : Fn) (first cap : Array Value) (w : World), (Instr.makeFunc fn first cap).run Tryz.prog w = .ok (.func fn first cap) w := fun _ _ _ _ => rfl
 have HW := Lib.hid hW
 have HS := Lib.hid hS
 have HZ := Lib.hid hz
 have HA := Lib.hid had
 have HSA := Lib.hid shad
 clear hW hS hz had shad
 go_enter Tryz.func109, Tryz.ntmps109
 go_wp2_with fail
 obtain ⟨W2, hW2⟩ : ∃ W2, ((w.alloc (.cells #[.slice sad n scap] 39)).alloc (.cells #[.int .i64 0] 3)) = W2 := ⟨_, rfl⟩
 rw [hW2]
 have hbel : Below w.heap.size w W2 := by rw [← hW2]; exact bm
 have bs : Blk W2 w.heap.size #[.slice sad n scap] 39 := by rw [← hW2]; exact (Blk.new _ _ _).alloc _
 have bt : Blk W2 (w.heap.size + 1) #[.int .i64 0] 3 := by rw [← hW2]; exact Blk.mk (by simp)
 have hsz : W2.heap.size = w.heap.size + 2 := by rw [← hW2]; simp
 clear hW2
 have hwk := walk_any b off len cap ad zs _ (TakenAt (w.heap.size + 1) w.heap.size sb so n scap sad ss) (bgO n ss) (some (w.heap.size + 1)) (begins_old (w.heap.size + 1) w.heap.size sb so n scap sad ss (by omega) HSA.out hn b off len cap zs (by omega) (by omega) HZ.out)
  HA.out hlc hcap HZ.out (.inr ⟨_, _, _, rfl⟩) W2 (HW.out.block (hbel.block b hb0)) ⟨Nat.zero_le _, bt, bs, HS.out.block (hbel.block sb hsb0), .inl (by omega)⟩ (fun r e => by cases e; exact ⟨by omega, by omega⟩)
  (fun k A B h hb => h.keep (m := W2.heap.size) (by omega) (by omega) (fun _ => by omega) hb)
 have hfin : ∀ W', W2.grownBy W' (some (w.heap.size + 1)) → Below w.heap.size w W' := fun W' hg => ⟨hg.os.trans hbel.os, hg.tape.trans hbel.tape, hg.output.trans hbel.output, Nat.le_trans hbel.size hg.size, fun k hk => (hg.block k (by omega) (fun e => by cases e; omega)).trans (hbel.block k hk)⟩
 have HF := Lib.hid hfin
 clear hfin
 rcases hr : walkF (bgO n ss) zs len (len + 1) 0 0 [] with ⟨l, k⟩ | ⟨c, k⟩
 ·rw [hr] at hwk
  have HK := Lib.hid hwk
  have HR := Lib.hid hr
  clear hwk hr
  refine HK.out.mono ?_
  rintro e W' ⟨hg, hst, v, rfl, ho⟩
  have HB := Lib.hid (HF.out W' hg)
  obtain ⟨lt, ct, ft⟩ := hst.t.get
  obtain ⟨ls, cs, fs⟩ := hst.s.get
  have ct0 := ct 0
  have cs0 := cs 0
  have HO := Lib.hid ho
  clear hg ho hst
  by_cases hkn : k < n
  ·have hk2 : (k : Int) < (n : Int) := by omega
   go_wp2_with fail
   go_ret2
   exact ⟨⟨w.heap.size, Nat.le_refl _, by rw [HR.out]; unfold oldRes; dsimp only; rw [if_pos hkn]; rfl⟩, HB.out⟩
  ·have hk2 : ¬ (k : Int) < (n : Int) := by omega
   go_wp2_with fail
   go_ret2
   exact ⟨⟨W2.heap.size + 6, by omega, by rw [HR.out]; unfold oldRes; dsimp only; rw [if_neg hkn]; exact ⟨v, rfl, HO.out⟩⟩, HB.out⟩
 ·rw [hr] at hwk
  have HK := Lib.hid hwk
  clear hwk
  have hce : Hid (c ≠ 0) := walkF_err hr
  have HR := Lib.hid hr
  clear hr
  have hcb : (c == 0) = false := by have := hce.out; simp [this]
  refine HK.out.mono ?_
  rintro e W' ⟨hg, hst, rfl⟩
  have HB := Lib.hid (HF.out W' hg)
  clear hg hst
  go_wp2_with fail
  go_ret2
  exact ⟨⟨w.heap.size, Nat.le_refl _, by rw [HR.out]; rfl⟩, HB.out⟩
end Go.Proofs.YtpgjploaliefdaaGreat.ob
namespace Go.Proofs.YtpgjploaliefdaaGreat.ob
open Go.RowKit hd
set_option linter.unusedVariables false
set_option linter.unusedSimpArgs false
theorem ptrref_any (x : Int) (w : World) (h1 : 0 ≤ x) (h2 : x < 18446744073709551616) :
  Calls Tryz.prog 71 #[.int .u64 x] w fun e w' => e = .returned (.bool (ptrB x)) ∧ w = w' := by
 have HP := Lib.hid (ptrB_eq x)
 go_enter Tryz.func71, Tryz.ntmps71
 go_wp2_with fail
 refine (addrref_any x _ h1 h2).mono ?_; rintro e ww ⟨rfl, rfl⟩
 generalize adE x = E at *
 go_wp2_with fail
 all_goals go_ret
 all_goals (refine ⟨?_, rfl⟩; rw [HP.out]; simp_all; try rw [Bool.eq_iff_iff]; try simp_all)
def rowOk (o : Ob) (ys : List Int) (k : Nat) : Prop := ∀ i, i < k → slotOk o i (ys.getD i 0) = true
theorem rowOk_succ {o : Ob} {ys : List Int} {k : Nat} (h : rowOk o ys k) : slotOk o k (ys.getD k 0) = true → rowOk o ys (k + 1) := fun g i hi => by
 by_cases e : i < k
 ·exact h i e
 ·obtain rfl : i = k := by omega
  exact g
theorem rowOk_bad {o : Ob} {ys : List Int} {k n : Nat} (h : k < n) : slotOk o k (ys.getD k 0) = false → ¬ rowOk o ys n := fun g q => by
 have := q k h; rw [g] at this; cases this
def SlotsPost (o : Ob) (ys : List Int) (S : Nat) (e : Ending) : Prop := (rowOk o ys S ∧ e = .returned (.int .i64 0)) ∨ (¬ rowOk o ys S ∧ e = .returned (.int .i64 3))
set_option maxHeartbeats 2000000 in
theorem slots_any (b off S c : Nat) (ad : Option Addr) (o : Ob) (ys : List Int) (w : World) (hS : S < 1000000000000) (had : 0 < S → ad = some ⟨b, off, none⟩) (hx : WordsAt w b off S ys) (hz : ∀ i, 0 ≤ ys.getD i 0 ∧ ys.getD i 0 < 18446744073709551616) :
  Calls Tryz.prog 73 #[.slice ad S c, oV o] w fun e w' => SlotsPost o ys S e ∧ Below w.heap.size w w' := by
 obtain ⟨p0, s, p, g, t⟩ := o
 have HX := Lib.hid hx
 have HZ := Lib.hid hz
 have HA := Lib.hid had
 clear hx hz had
 unfold oV
 go_enter Tryz.func73, Tryz.ntmps73
 go_wp2_with fail
 go_loop [5] (fun i => ∃ k : Nat, k ≤ S ∧ i = .int .i64 k ∧ Hid (rowOk ⟨p0, s, p, g, t⟩ ys k)) (fun i => S - (intOf i).toNat)
 case atStart => exact ⟨0, Nat.zero_le _, rfl, fun i hi => by omega⟩
 case round =>
  obtain ⟨k, hk, rfl, hok⟩ := hrel
  by_cases hlk : k < S
  ·obtain rfl := HA.out (by omega)
   have hxk := HX.out.at k hlk
   have hbl : b < w.heap.size := HX.out.lt (by omega)
   have hb0 : b ≠ w.heap.size := by omega
   have hzk := HZ.out k
   have HG := Lib.hid (rowOk_succ (o := ⟨p0, s, p, g, t⟩) (ys := ys) hok.out)
   have HB := Lib.hid (rowOk_bad (o := ⟨p0, s, p, g, t⟩) (ys := ys) (n := S) hlk)
   generalize ys.getD k 0 = x at *
   cases g with
   | true =>
    by_cases hx0 : x = 0
    ·have hxb : (x == 0) = true := by simp [hx0]
     subst hx0
     by_cases hkp : (k : Int) < p
     ·have hkd : decide ((k : Int) < p) = true := decide_eq_true hkp
      have hp0 : ptrB 0 = true := by decide
      go_wp2_with fail
      refine (ptrref_any 0 _ (by omega) (by omega)).mono ?_; rintro e ww ⟨rfl, rfl⟩
      rw [hp0]
      go_wp2_with fail
      exact ⟨⟨k + 1, by omega, by go_num, HG.out (by simp [slotOk])⟩, by simp [intOf]; omega⟩
     ·have hkd : decide ((k : Int) < p) = false := decide_eq_false hkp
      go_wp2_with fail
      exact ⟨⟨k + 1, by omega, by go_num, HG.out (by simp [slotOk])⟩, by simp [intOf]; omega⟩
    ·have hxb : (x == 0) = false := by simp [hx0]
     go_wp2_with fail
     go_ret
     refine ⟨.inr ⟨HB.out (by simp [slotOk, hx0]), rfl⟩, ?_⟩
     exact bm
   | false =>
    by_cases hkp : (k : Int) < p
    ·have hkd : decide ((k : Int) < p) = true := decide_eq_true hkp
     go_wp2_with fail
     refine (ptrref_any x _ hzk.1 hzk.2).mono ?_; rintro e ww ⟨rfl, rfl⟩
     rcases hpb : ptrB x with _ | _
     ·go_wp2_with fail
      go_ret
      refine ⟨.inr ⟨HB.out (by simp [slotOk, hkp, hpb]), rfl⟩, ?_⟩
      exact bm
     ·go_wp2_with fail
      exact ⟨⟨k + 1, by omega, by go_num, HG.out (by simp [slotOk, hpb])⟩, by simp [intOf]; omega⟩
    ·have hkd : decide ((k : Int) < p) = false := decide_eq_false hkp
     go_wp2_with fail
     exact ⟨⟨k + 1, by omega, by go_num, HG.out (by simp [slotOk, hkp])⟩, by simp [intOf]; omega⟩
  ·obtain rfl : k = S := by omega
   go_wp2_with fail
   go_ret
   refine ⟨.inl ⟨hok.out, rfl⟩, ?_⟩
   exact bm
end Go.Proofs.YtpgjploaliefdaaGreat.ob
