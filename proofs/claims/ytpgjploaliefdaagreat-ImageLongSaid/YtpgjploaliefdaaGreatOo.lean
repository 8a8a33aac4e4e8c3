/- objects.begin with a closure; objects.WalkOld. No conditions. -/
import Derived.Test.YtpgjploaliefdaaGreatOz
namespace Go.Proofs.YtpgjploaliefdaaGreat.ob
open Go.RowKit Go.Shelf Go.Proofs.YtpgjploaliefdaaGreat.hd Go.Proofs.YtpgjploaliefdaaGreat.rt
set_option linter.unusedVariables false
set_option linter.unusedSimpArgs false
def bgO (n : Nat) (ss : List (Int × Int)) (k pos : Nat) (x : Int) : Option (Ob × Nat) :=
  if adE x = 0 then (if k < n ∧ rightB (ss.getD k (0, 0)).1 (ss.getD k (0, 0)).2 = true then some (⟨pos, (ss.getD k (0, 0)).1, (ss.getD k (0, 0)).2, true, adV x⟩, k + 1) else none) else bgN k pos x
theorem TakenAt.grown {Bt Bs sb so n scap k : Nat} {sad : Option Addr} {ss : List (Int × Int)} {A B : World} (h : TakenAt Bt Bs sb so n scap sad ss k A) (hg : A.grownBy B none) : TakenAt Bt Bs sb so n scap sad ss k B := by
  have hb := grown_below hg
  refine ⟨h.kn, h.t.tr hb, h.s.tr hb, ?_, h.ne⟩
  rcases Nat.eq_zero_or_pos n with h0 | h0
  · subst h0; exact ShapesAt.none _ _ _ _
  · exact h.c.block (hb.block sb (h.c.lt h0))
theorem TakenAt.set {Bt Bs sb so n scap k : Nat} {sad : Option Addr} {ss : List (Int × Int)} {A : World} (h : TakenAt Bt Bs sb so n scap sad ss k A) (p : Addr) (hp : p.block ≠ Bt ∧ p.block ≠ Bs ∧ (0 < n → p.block ≠ sb)) (v : Value) : TakenAt Bt Bs sb so n scap sad ss k (A.setCell p v) := by
  refine ⟨h.kn, h.t.other (fun e => hp.1 e.symm) _, h.s.other (fun e => hp.2.1 e.symm) _, ?_, h.ne⟩
  rcases Nat.eq_zero_or_pos n with h0 | h0
  · subst h0; exact ShapesAt.none _ _ _ _
  · exact h.c.block (Below.heap_setCell _ _ _ _ (fun e => hp.2.2 h0 e.symm))
theorem far_of {Bt Bs sb n m j : Nat} (h1 : Bt < m) (h2 : Bs < m) (h3 : 0 < n → sb < m) (h : m ≤ j) : j ≠ Bt ∧ j ≠ Bs ∧ (0 < n → j ≠ sb) := ⟨by omega, by omega, fun q => by have := h3 q; omega⟩
theorem adE_even {x : Int} (h : ¬ adE x = 0) : (adE x == 0) = false := by simp [h]
set_option maxHeartbeats 2000000 in
theorem begin_old (Bt Bs sb so n scap : Nat) (sad : Option Addr) (ss : List (Int × Int)) (hts : Bt ≠ Bs) (had : 0 < n → sad = some ⟨sb, so, none⟩) (hn : n < 1000000000000)
    (b off len cap pos k : Nat) (x : Int) (w : World) (hbt : b ≠ Bt) (hp : pos < len) (hl : len < 9223372036854775808) (hx : w.cell? ⟨b, off + pos, none⟩ = some (.int .u64 x)) (h1 : 0 ≤ x) (h2 : x < 18446744073709551616) (hT : TakenAt Bt Bs sb so n scap sad ss k w) :
    Calls Tryz.prog 136 #[.slice (some ⟨b, off, none⟩) len cap, .int .i64 pos, .func (.func 123) #[] #[.pointer (some ⟨Bt, 0, none⟩), .pointer (some ⟨Bs, 0, none⟩)]] w fun e W' => w.grownBy W' (some Bt) ∧
      ((∃ o k', bgO n ss k pos x = some (o, k') ∧ e = .returned (oV o) ∧ TakenAt Bt Bs sb so n scap sad ss k' W') ∨ (bgO n ss k pos x = none ∧ e = .panicked [{ v := wrongV 3, recovered := false }] ∧ TakenAt Bt Bs sb so n scap sad ss k W')) := by
  have hlt : b < w.heap.size := World.block_lt_of_cell? _ _ hx
  have hn0 : b ≠ w.heap.size := by omega
  have hn1 : b ≠ w.heap.size + 1 := by omega
  have hs0 : b < w.heap.size + 1 := by omega
  have hs1 : b < w.heap.size + 1 + 1 := by omega
  have hnn := fn_some
  have htl := hT.t.lt
  have hsl := hT.s.lt
  have hcl : 0 < n → sb < w.heap.size := fun h => hT.c.lt h
  have hHcl := Lib.hid hcl
  clear hcl
  by_cases hE : adE x = 0
  · have hE2 : (adE x == 0) = true := by simp [hE]
    have HB := Lib.hid (show bgO n ss k pos x = if k < n ∧ rightB (ss.getD k (0, 0)).1 (ss.getD k (0, 0)).2 = true then some (⟨pos, (ss.getD k (0, 0)).1, (ss.getD k (0, 0)).2, true, adV x⟩, k + 1) else none from by unfold bgO; rw [if_pos hE])
    go_enter Tryz.func136, Tryz.ntmps136
    go_wp2_with fail
    refine (addr_any x _ h1 h2).mono ?_; rintro e ww ⟨rfl, rfl⟩
    go_wp2_with fail
    have hT2 := (hT.grown (World.grownBy_alloc w (.cells #[.int .i64 0, .int .i64 0, .int .i64 0, .bool false, .int .u64 0] 58) none)).grown (World.grownBy_alloc _ (.cells #[.int .i64 pos, .int .i64 0, .int .i64 0, .bool true, .int .u64 (adV x)] 58) none)
    have hg0 : w.grownBy ((w.alloc (.cells #[.int .i64 0, .int .i64 0, .int .i64 0, .bool false, .int .u64 0] 58)).alloc (.cells #[.int .i64 pos, .int .i64 0, .int .i64 0, .bool true, .int .u64 (adV x)] 58)) (some Bt) := AllocG (World.grownBy_alloc _ _ _) _
    have hr0 : Blk ((w.alloc (.cells #[.int .i64 0, .int .i64 0, .int .i64 0, .bool false, .int .u64 0] 58)).alloc (.cells #[.int .i64 pos, .int .i64 0, .int .i64 0, .bool true, .int .u64 (adV x)] 58)) w.heap.size #[.int .i64 0, .int .i64 0, .int .i64 0, .bool false, .int .u64 0] 58 := (Blk.new _ _ _).alloc _
    have ho0 : Blk ((w.alloc (.cells #[.int .i64 0, .int .i64 0, .int .i64 0, .bool false, .int .u64 0] 58)).alloc (.cells #[.int .i64 pos, .int .i64 0, .int .i64 0, .bool true, .int .u64 (adV x)] 58)) (w.heap.size + 1) #[.int .i64 pos, .int .i64 0, .int .i64 0, .bool true, .int .u64 (adV x)] 58 := Blk.mk (by simp)
    refine (gone_any Bt Bs sb so n scap sad ss k _ hT2 hts had hn).mono ?_
    rintro e w1 ⟨hg1, ⟨hk, hrb, rfl, hT1⟩ | ⟨hk, rfl, hT1⟩⟩
    · have hB2 : Hid (bgO n ss k pos x = some (⟨pos, (ss.getD k (0, 0)).1, (ss.getD k (0, 0)).2, true, adV x⟩, k + 1)) := by show _ = _; rw [HB.out, if_pos ⟨hk, hrb⟩]
      generalize (ss.getD k (0, 0)).1 = S at *
      generalize (ss.getD k (0, 0)).2 = Pp at *
      have hgg := Lib.hid (hg0.trans hg1)
      have hr1 : Blk w1 w.heap.size #[.int .i64 0, .int .i64 0, .int .i64 0, .bool false, .int .u64 0] 58 := Blk.of ((hg1.block _ hr0.lt (fun e => by cases e; omega)).trans hr0.raw)
      have ho1 : Blk w1 (w.heap.size + 1) #[.int .i64 pos, .int .i64 0, .int .i64 0, .bool true, .int .u64 (adV x)] 58 := Blk.of ((hg1.block _ ho0.lt (fun e => by cases e; omega)).trans ho0.raw)
      have hTT := Lib.hid hT1
      clear hg0 hg1 hT2 hT1 hr0 ho0 hT
      obtain ⟨lr, cr, fr⟩ := hr1.get
      obtain ⟨lo, co, fo⟩ := ho1.get
      go_wp2_with fail
      refine bodyPost_ret (v := oV ⟨pos, S, Pp, true, adV x⟩) (by simp only [results, Tryz.results136]; go_simp; rfl) rfl ⟨?_, .inl ⟨_, _, hB2.out, rfl, ?_⟩⟩
      · repeat (first | with_reducible exact hgg.out | (with_reducible refine grown_set ?_ _ (.inl (by first | exact Nat.le_refl _ | exact Nat.le_succ _)) _))
      · repeat (first | with_reducible exact hTT.out | (with_reducible refine TakenAt.set ?_ _ (far_of htl hsl hHcl.out (by first | exact Nat.le_refl _ | exact Nat.le_succ _)) _))
    · have hB2 : bgO n ss k pos x = none := by rw [HB.out, if_neg hk]
      go_wp2_with fail
      exact ⟨rfl, hg0.trans hg1, .inr ⟨hB2, rfl, hT1⟩⟩
  · have hE2 := adE_even hE
    have HB := Lib.hid (show bgO n ss k pos x = bgN k pos x from by unfold bgO; rw [if_neg hE])
    rcases hu : unOk x with _ | _
    · have hE3 : unE x = 3 := by simp [unE, hu]
      go_enter Tryz.func136, Tryz.ntmps136
      go_wp2_with fail
      refine (addr_any x _ h1 h2).mono ?_; rintro e ww ⟨rfl, rfl⟩
      go_wp2_with fail
      refine (unpack_any x _ h1 h2).mono ?_; rintro e w1 ⟨rfl, k1⟩
      rw [hE3]
      go_wp2_with fail
      refine ⟨rfl, ?_, .inr ⟨by rw [HB.out]; unfold bgN; rw [if_neg (by rw [hu]; simp)], rfl, ?_⟩⟩
      · refine below_grown ?_ _
        (repeat (first | with_reducible exact Below.refl _ _ | with_reducible refine kp_alloc ?_ _ | with_reducible refine kp_drew ?_ | with_reducible refine kp_set ?_ (by first | omega | (simp; done) | (simp; omega)) _ | with_reducible refine kp_tr ?_ (by with_reducible assumption)))
      · refine hT.grown (below_grown ?_ none)
        (repeat (first | with_reducible exact Below.refl _ _ | with_reducible refine kp_alloc ?_ _ | with_reducible refine kp_drew ?_ | with_reducible refine kp_set ?_ (by first | omega | (simp; done) | (simp; omega)) _ | with_reducible refine kp_tr ?_ (by with_reducible assumption)))
    · have hE3 : unE x = 0 := by simp [unE, hu]
      go_enter Tryz.func136, Tryz.ntmps136
      go_wp2_with fail
      refine (addr_any x _ h1 h2).mono ?_; rintro e ww ⟨rfl, rfl⟩
      go_wp2_with fail
      refine (unpack_any x _ h1 h2).mono ?_; rintro e w1 ⟨rfl, k1⟩
      rw [hE3]
      have Ko : Blk w1 (w.heap.size + 1) #[.int .i64 pos, .int .i64 0, .int .i64 0, .bool false, .int .u64 0] 58 := Blk.tr (by (repeat (first | with_reducible assumption | exact Blk.mk rfl | exact Blk.mk (by simp) | refine Blk.drew ?_ | refine Blk.alloc ?_ _ | refine Blk.tr ?_ (by with_reducible assumption)))) k1
      have Kr : Blk w1 w.heap.size #[.int .i64 0, .int .i64 0, .int .i64 0, .bool false, .int .u64 0] 58 := Blk.tr (by (repeat (first | with_reducible assumption | exact Blk.mk rfl | exact Blk.mk (by simp) | refine Blk.drew ?_ | refine Blk.alloc ?_ _ | refine Blk.tr ?_ (by with_reducible assumption)))) k1
      have hbb : Below w.heap.size w w1 := by (repeat (first | with_reducible exact Below.refl _ _ | with_reducible refine kp_alloc ?_ _ | with_reducible refine kp_drew ?_ | with_reducible refine kp_set ?_ (by first | omega | (simp; done) | (simp; omega)) _ | with_reducible refine kp_tr ?_ (by with_reducible assumption)))
      have hTT := Lib.hid (hT.grown (below_grown hbb none))
      obtain ⟨lo, co, fo⟩ := Ko.get
      obtain ⟨lr, cr, fr⟩ := Kr.get
      go_wp2_with fail
      refine bodyPost_ret (v := oV ⟨pos, unS x, unP x, false, 0⟩) (by simp only [results, Tryz.results136]; go_simp; rfl) rfl ⟨?_, .inl ⟨_, k, by rw [HB.out]; unfold bgN; rw [if_pos hu], rfl, ?_⟩⟩
      · refine below_grown ?_ _
        (repeat (first | with_reducible exact Below.refl _ _ | with_reducible refine kp_alloc ?_ _ | with_reducible refine kp_drew ?_ | with_reducible refine kp_set ?_ (by first | omega | (simp; done) | (simp; omega)) _ | with_reducible refine kp_tr ?_ (by with_reducible assumption)))
      · refine hT.grown (below_grown ?_ none)
        (repeat (first | with_reducible exact Below.refl _ _ | with_reducible refine kp_alloc ?_ _ | with_reducible refine kp_drew ?_ | with_reducible refine kp_set ?_ (by first | omega | (simp; done) | (simp; omega)) _ | with_reducible refine kp_tr ?_ (by with_reducible assumption)))
theorem begins_old (Bt Bs sb so n scap : Nat) (sad : Option Addr) (ss : List (Int × Int)) (hts : Bt ≠ Bs) (had : 0 < n → sad = some ⟨sb, so, none⟩) (hn : n < 1000000000000)
    (b off len cap : Nat) (zs : List Int) (hbt : b ≠ Bt) (hl : len < 9223372036854775808) (hz : ∀ i, 0 ≤ zs.getD i 0 ∧ zs.getD i 0 < 18446744073709551616) :
    BeginOk b off len cap zs (.func (.func 123) #[] #[.pointer (some ⟨Bt, 0, none⟩), .pointer (some ⟨Bs, 0, none⟩)]) (TakenAt Bt Bs sb so n scap sad ss) (bgO n ss) (some Bt) := by
  refine ⟨fun k A B h hg => h.grown hg, fun k pos x o k' h => ?_, fun k pos W hp hT hw => begin_old Bt Bs sb so n scap sad ss hts had hn b off len cap pos k _ W hbt hp hl (hw.at pos hp) (hz pos).1 (hz pos).2 hT⟩
  unfold bgO at h
  split at h
  · split at h
    · rename_i hu
      cases h
      have h2 := rightB_t hu.2
      exact ⟨rfl, h2.1, h2.2.1⟩
    · cases h
  · unfold bgN at h
    split at h
    · rename_i hu
      cases h
      exact ⟨rfl, unS_small hu⟩
    · cases h
theorem walkF_err {bg : Nat → Nat → Int → Option (Ob × Nat)} {zs : List Int} {len : Nat} {c : Int} {k2 : Nat} : ∀ {f k pos : Nat} {acc : List Ob}, walkF bg zs len f k pos acc = .err c k2 → c ≠ 0
  | 0, k, pos, acc, h => by cases h; decide
  | f + 1, k, pos, acc, h => by
    by_cases hp : pos < len
    · rw [walkF_step hp] at h
      split at h
      · cases h; decide
      · split at h
        · cases h; decide
        · split at h
          · exact walkF_err h
          · cases h; decide
    · rw [walkF_end hp] at h; cases h
/-- What WalkOld hands back. -/
def oldRes (n : Nat) : Res → Res
  | .ok l k => if k < n then .err 3 k else .ok l k
  | .err c k => .err c k
theorem TakenAt.keep {Bt Bs sb so n scap k : Nat} {sad : Option Addr} {ss : List (Int × Int)} {A B : World} {m : Nat} (h : TakenAt Bt Bs sb so n scap sad ss k A) (h1 : Bt < m) (h2 : Bs < m) (h3 : 0 < n → sb < m) (hb : ∀ j, j < m → B.heap[j]? = A.heap[j]?) : TakenAt Bt Bs sb so n scap sad ss k B := by
  refine ⟨h.kn, Blk.of ((hb _ h1).trans h.t.raw), Blk.of ((hb _ h2).trans h.s.raw), ?_, h.ne⟩
  rcases Nat.eq_zero_or_pos n with h0 | h0
  · subst h0; exact ShapesAt.none _ _ _ _
  · exact h.c.block (hb _ (h3 h0))
theorem WalkOld_any (b off len cap : Nat) (ad : Option Addr) (zs : List Int) (had : 0 < len → ad = some ⟨b, off, none⟩) (hlc : len ≤ cap) (hcap : cap < 9223372036854775808 ∧ len < 1000000000000) (hz : ∀ i, 0 ≤ zs.getD i 0 ∧ zs.getD i 0 < 18446744073709551616)
    (sb so n scap : Nat) (sad : Option Addr) (ss : List (Int × Int)) (shad : 0 < n → sad = some ⟨sb, so, none⟩) (hn : n < 1000000000000) (w : World) (hW : WordsAt w b off len zs) (hS : ShapesAt w sb so n ss) (hb0 : b < w.heap.size) (hsb0 : sb < w.heap.size) :
    Calls Tryz.prog 109 #[.slice ad len cap, .slice sad n scap] w fun e W' => (∃ B, w.heap.size ≤ B ∧ WalkedAs B (oldRes n (walkF (bgO n ss) zs len (len + 1) 0 0 [])) e W') ∧ Below w.heap.size w W' := by
  have hmf : ∀ (fn : Fn) (first cap : Array Value) (w : World), (Instr.makeFunc fn first cap).run Tryz.prog w = .ok (.func fn first cap) w := fun _ _ _ _ => rfl
  have HW := Lib.hid hW
  have HS := Lib.hid hS
  have HZ := Lib.hid hz
  have HA := Lib.hid had
  have HSA := Lib.hid shad
  clear hW hS hz had shad
  go_enter Tryz.func109, Tryz.ntmps109
  go_wp2_with fail
  obtain ⟨W2, hW2⟩ : ∃ W2, ((w.alloc (.cells #[.slice sad n scap] 39)).alloc (.cells #[.int .i64 0] 3)) = W2 := ⟨_, rfl⟩
  rw [hW2]
  have hbel : Below w.heap.size w W2 := by rw [← hW2]; (repeat (first | with_reducible exact Below.refl _ _ | with_reducible refine kp_alloc ?_ _ | with_reducible refine kp_drew ?_ | with_reducible refine kp_set ?_ (by first | omega | (simp; done) | (simp; omega)) _ | with_reducible refine kp_tr ?_ (by with_reducible assumption)))
  have bs : Blk W2 w.heap.size #[.slice sad n scap] 39 := by rw [← hW2]; exact (Blk.new _ _ _).alloc _
  have bt : Blk W2 (w.heap.size + 1) #[.int .i64 0] 3 := by rw [← hW2]; exact Blk.mk (by simp)
  have hsz : W2.heap.size = w.heap.size + 2 := by rw [← hW2]; simp
  clear hW2
  have hwk := walk_any b off len cap ad zs _ (TakenAt (w.heap.size + 1) w.heap.size sb so n scap sad ss) (bgO n ss) (some (w.heap.size + 1)) (begins_old (w.heap.size + 1) w.heap.size sb so n scap sad ss (by omega) HSA.out hn b off len cap zs (by omega) (by omega) HZ.out)
    HA.out hlc hcap HZ.out (.inr ⟨_, _, _, rfl⟩) W2 (HW.out.block (hbel.block b hb0)) ⟨Nat.zero_le _, bt, bs, HS.out.block (hbel.block sb hsb0), .inl (by omega)⟩ (fun r e => by cases e; exact ⟨by omega, by omega⟩)
    (fun k A B h hb => h.keep (m := W2.heap.size) (by omega) (by omega) (fun _ => by omega) hb)
  have hfin : ∀ W', W2.grownBy W' (some (w.heap.size + 1)) → Below w.heap.size w W' := fun W' hg => ⟨hg.os.trans hbel.os, hg.tape.trans hbel.tape, hg.output.trans hbel.output, Nat.le_trans hbel.size hg.size, fun k hk => (hg.block k (by omega) (fun e => by cases e; omega)).trans (hbel.block k hk)⟩
  have HF := Lib.hid hfin
  clear hfin
  rcases hr : walkF (bgO n ss) zs len (len + 1) 0 0 [] with ⟨l, k⟩ | ⟨c, k⟩
  · rw [hr] at hwk
    have HK := Lib.hid hwk
    have HR := Lib.hid hr
    clear hwk hr
    refine HK.out.mono ?_
    rintro e W' ⟨hg, hst, v, rfl, ho⟩
    have HB := Lib.hid (HF.out W' hg)
    obtain ⟨lt, ct, ft⟩ := hst.t.get
    obtain ⟨ls, cs, fs⟩ := hst.s.get
    have ct0 := ct 0
    have cs0 := cs 0
    have HO := Lib.hid ho
    clear hg ho hst
    by_cases hkn : k < n
    · have hk2 : (k : Int) < (n : Int) := by omega
      go_wp2_with fail
      go_ret2
      exact ⟨⟨w.heap.size, Nat.le_refl _, by rw [HR.out]; unfold oldRes; dsimp only; rw [if_pos hkn]; rfl⟩, HB.out⟩
    · have hk2 : ¬ (k : Int) < (n : Int) := by omega
      go_wp2_with fail
      go_ret2
      exact ⟨⟨W2.heap.size + 6, by omega, by rw [HR.out]; unfold oldRes; dsimp only; rw [if_neg hkn]; exact ⟨v, rfl, HO.out⟩⟩, HB.out⟩
  · rw [hr] at hwk
    have HK := Lib.hid hwk
    clear hwk
    have hce : Hid (c ≠ 0) := walkF_err hr
    have HR := Lib.hid hr
    clear hr
    have hcb : (c == 0) = false := by have := hce.out; simp [this]
    refine HK.out.mono ?_
    rintro e W' ⟨hg, hst, rfl⟩
    have HB := Lib.hid (HF.out W' hg)
    clear hg hst
    go_wp2_with fail
    go_ret2
    exact ⟨⟨w.heap.size, Nat.le_refl _, by rw [HR.out]; rfl⟩, HB.out⟩
end Go.Proofs.YtpgjploaliefdaaGreat.ob
