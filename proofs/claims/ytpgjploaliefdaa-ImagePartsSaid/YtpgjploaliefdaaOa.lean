/- Contracts of layer 6's small functions. No conditions. -/
import Derived.Test.YtpgjploaliefdaaHd
namespace Go.Proofs.Ytpgjploaliefdaa.ob
open Go.RowKit Go.Proofs.Ytpgjploaliefdaa.hd
set_option linter.unusedVariables false
set_option linter.unusedSimpArgs false
def ptrB (x : Int) : Bool := decide (x = 0 ∨ (x % 2 = 1 ∧ x ≠ 1))
theorem ptrB_eq (x : Int) : ptrB x = (decide (x = 0) || decide (adE x = 0)) := by
  unfold ptrB adE
  rw [Bool.eq_iff_iff]
  simp
  repeat' split
  all_goals omega
theorem pointer_any (x : Int) (w : World) (h1 : 0 ≤ x) (h2 : x < 18446744073709551616) :
    Calls Try.prog 81 #[.int .u64 x] w fun e w' => e = .returned (.bool (ptrB x)) ∧ w = w' := by
  have HP := Lib.hid (ptrB_eq x)
  go_enter Try.func81, Try.ntmps81
  go_wp2_with fail
  refine (addr_any x _ h1 h2).mono ?_; rintro e ww ⟨rfl, rfl⟩
  generalize adE x = E at *
  go_wp2_with fail
  all_goals go_ret
  all_goals (refine ⟨?_, rfl⟩; rw [HP.out]; simp_all; try rw [Bool.eq_iff_iff]; try simp_all)
def wrongV (k : Int) : Value := .iface 127 (.agg #[.int .i64 k])
structure Ob where
  pos : Int
  s : Int
  p : Int
  g : Bool
  t : Int
def oV (o : Ob) : Value := .agg #[.int .i64 o.pos, .int .i64 o.s, .int .i64 o.p, .bool o.g, .int .u64 o.t]
theorem fn_nil (W : World) : Sem.run Try.prog (binOp .neq 128 .nilFunc .nilFunc) W = .ok (.bool false) W := by kernel_rfl
theorem fn_some (f : Fn) (a c : Array Value) (W : World) : Sem.run Try.prog (binOp .neq 128 (.func f a c) .nilFunc) W = .ok (.bool true) W := by kernel_rfl
def BeginPost (pos : Nat) (x : Int) (e : Ending) : Prop := unOk x = true ∧ e = .returned (oV ⟨pos, unS x, unP x, false, 0⟩) ∨ unOk x = false ∧ e = .panicked [{ v := wrongV 3, recovered := false }]
set_option maxHeartbeats 1000000 in
theorem begin_nil (b off len cap pos : Nat) (x : Int) (w : World) (hp : pos < len) (hl : len < 9223372036854775808) (hx : w.cell? ⟨b, off + pos, none⟩ = some (.int .u64 x)) (h1 : 0 ≤ x) (h2 : x < 18446744073709551616) :
    Calls Try.prog 73 #[.slice (some ⟨b, off, none⟩) len cap, .int .i64 pos, .nilFunc] w fun e w' => BeginPost pos x e ∧ Below w.heap.size w w' := by
  have hlt : b < w.heap.size := World.block_lt_of_cell? _ _ hx
  have hn0 : b ≠ w.heap.size := by omega
  have hn1 : b ≠ w.heap.size + 1 := by omega
  have hs0 : b < w.heap.size + 1 := by omega
  have hs1 : b < w.heap.size + 1 + 1 := by omega
  go_enter Try.func73, Try.ntmps73
  go_wp2_with fail
  refine (addr_any x _ h1 h2).mono ?_; rintro e ww ⟨rfl, rfl⟩
  have hnn := fn_nil
  rcases hu : unOk x with _ | _
  · have hE : unE x = 3 := by simp [unE, hu]
    go_wp2_with fail
    refine (unpack_any x _ h1 h2).mono ?_; rintro e w1 ⟨rfl, k1⟩
    rw [hE]
    go_wp2_with fail
    refine ⟨rfl, .inr ⟨hu, rfl⟩, ?_⟩
    (repeat (first | with_reducible exact Below.refl _ _ | with_reducible refine kp_alloc ?_ _ | with_reducible refine kp_drew ?_ | with_reducible refine kp_set ?_ (by first | omega | (simp; done) | (simp; omega)) _ | with_reducible refine kp_tr ?_ (by with_reducible assumption)))
  · have hE : unE x = 0 := by simp [unE, hu]
    go_wp2_with fail
    refine (unpack_any x _ h1 h2).mono ?_; rintro e w1 ⟨rfl, k1⟩
    rw [hE]
    have Ko : Blk w1 (w.heap.size + 1) #[.int .i64 pos, .int .i64 0, .int .i64 0, .bool false, .int .u64 0] 36 := Blk.tr (by (repeat (first | with_reducible assumption | exact Blk.mk rfl | exact Blk.mk (by simp) | refine Blk.drew ?_ | refine Blk.alloc ?_ _ | refine Blk.tr ?_ (by with_reducible assumption)))) k1
    have Kr : Blk w1 w.heap.size #[.int .i64 0, .int .i64 0, .int .i64 0, .bool false, .int .u64 0] 36 := Blk.tr (by (repeat (first | with_reducible assumption | exact Blk.mk rfl | exact Blk.mk (by simp) | refine Blk.drew ?_ | refine Blk.alloc ?_ _ | refine Blk.tr ?_ (by with_reducible assumption)))) k1
    obtain ⟨lo, co, fo⟩ := Ko.get
    obtain ⟨lr, cr, fr⟩ := Kr.get
    go_wp2_with fail
    refine bodyPost_ret (v := oV ⟨pos, unS x, unP x, false, 0⟩) (by simp only [results, Try.results73]; go_simp; rfl) rfl ⟨.inl ⟨hu, rfl⟩, ?_⟩
    (repeat (first | with_reducible exact Below.refl _ _ | with_reducible refine kp_alloc ?_ _ | with_reducible refine kp_drew ?_ | with_reducible refine kp_set ?_ (by first | omega | (simp; done) | (simp; omega)) _ | with_reducible refine kp_tr ?_ (by with_reducible assumption)))
def slotOk (o : Ob) (i : Nat) (x : Int) : Bool := if o.g then decide (x = 0) else (!decide ((i : Int) < o.p) || ptrB x)
def slotsOk (o : Ob) (zs : List Int) (k : Nat) : Prop := ∀ i, i < k → slotOk o i (zs.getD (o.pos.toNat + 1 + i) 0) = true
def HoldPost (o : Ob) (pos S len : Nat) (zs : List Int) (e : Ending) : Prop := len < pos + 1 + S ∧ e = .panicked [{ v := wrongV 2, recovered := false }] ∨ pos + 1 + S ≤ len ∧ slotsOk o zs S ∧ e = .returned (.tuple #[]) ∨ pos + 1 + S ≤ len ∧ ¬ slotsOk o zs S ∧ e = .panicked [{ v := wrongV 3, recovered := false }]
theorem slotsOk_succ {o : Ob} {zs : List Int} {k : Nat} (h : slotsOk o zs k) : slotOk o k (zs.getD (o.pos.toNat + 1 + k) 0) = true → slotsOk o zs (k + 1) := fun g i hi => by
  by_cases e : i < k
  · exact h i e
  · obtain rfl : i = k := by omega
    exact g
theorem slotsOk_bad {o : Ob} {zs : List Int} {k n : Nat} (h : k < n) : slotOk o k (zs.getD (o.pos.toNat + 1 + k) 0) = false → ¬ slotsOk o zs n := fun g q => by
  have := q k h; rw [g] at this; cases this
set_option maxHeartbeats 2000000 in
theorem hold_any (b off len cap pos S : Nat) (p t : Int) (g : Bool) (zs : List Int) (w : World) (hp : pos < len) (hc : len ≤ cap) (hl : cap < 9223372036854775808) (hS : S ≤ 255) (hx : ∀ i, i < len → w.cell? ⟨b, off + i, none⟩ = some (.int .u64 (zs.getD i 0))) (hz : ∀ i, 0 ≤ zs.getD i 0 ∧ zs.getD i 0 < 18446744073709551616) :
    Calls Try.prog 74 #[.slice (some ⟨b, off, none⟩) len cap, oV ⟨pos, S, p, g, t⟩] w fun e w' => HoldPost ⟨pos, S, p, g, t⟩ pos S len zs e ∧ Below w.heap.size w w' := by
  have hx0 := hx pos hp
  have hlt : b < w.heap.size := World.block_lt_of_cell? _ _ hx0
  have hn0 : b ≠ w.heap.size := by omega
  have hs0 : b < w.heap.size + 1 := by omega
  unfold oV
  go_enter Try.func74, Try.ntmps74
  clear hx0
  have HX := Lib.hid hx
  have HZ := Lib.hid hz
  clear hx hz
  by_cases hcap : cap = pos + 1
  · obtain rfl : len = cap := by omega
    subst hcap
    by_cases hS0 : S = 0
    · subst hS0
      go_wp2_with fail
      go_loop [26] (fun i => i = .int .i64 0) (fun _ => 0)
      case atStart => rfl
      case round =>
        subst hrel
        go_wp2_with fail
        go_end0
        refine ⟨.inr (.inl ⟨by omega, fun i hi => by omega, rfl⟩), ?_⟩
        (repeat (first | with_reducible exact Below.refl _ _ | with_reducible refine kp_alloc ?_ _ | with_reducible refine kp_drew ?_ | with_reducible refine kp_set ?_ (by first | omega | (simp; done) | (simp; omega)) _ | with_reducible refine kp_tr ?_ (by with_reducible assumption)))
    · have h1 : (0 : Int) < (S : Int) := by omega
      go_wp2_with fail
      refine ⟨rfl, .inl ⟨by omega, rfl⟩, ?_⟩
      (repeat (first | with_reducible exact Below.refl _ _ | with_reducible refine kp_alloc ?_ _ | with_reducible refine kp_drew ?_ | with_reducible refine kp_set ?_ (by first | omega | (simp; done) | (simp; omega)) _ | with_reducible refine kp_tr ?_ (by with_reducible assumption)))
  · have hcp : 0 < cap - (pos + 1) := by omega
    by_cases hsh : len < pos + 1 + S
    · have h1 : (((len - (pos + 1) : Nat) : Int)) < (S : Int) := by omega
      go_wp2_with fail
      refine ⟨rfl, .inl ⟨by omega, rfl⟩, ?_⟩
      (repeat (first | with_reducible exact Below.refl _ _ | with_reducible refine kp_alloc ?_ _ | with_reducible refine kp_drew ?_ | with_reducible refine kp_set ?_ (by first | omega | (simp; done) | (simp; omega)) _ | with_reducible refine kp_tr ?_ (by with_reducible assumption)))
    · have h1 : ¬ (((len - (pos + 1) : Nat) : Int)) < (S : Int) := by omega
      clear h1
      have hSl : S ≤ len - (pos + 1) := by omega
      go_wp2_with fail
      rw [show decide (len - (pos + 1) < S) = false from decide_eq_false (by omega)]
      go_loop [26] (fun i => ∃ k : Nat, k ≤ S ∧ i = .int .i64 k ∧ Hid (slotsOk ⟨pos, S, p, g, t⟩ zs k)) (fun i => S - (intOf i).toNat)
      case atStart => exact ⟨0, Nat.zero_le _, rfl, fun i hi => by omega⟩
      case round =>
        obtain ⟨k, hk, rfl, hok⟩ := hrel
        by_cases hlk : k < S
        · have hxk := HX.out (pos + 1 + k) (by omega)
          have hzk := HZ.out (pos + 1 + k)
          rw [show off + (pos + 1 + k) = off + (pos + 1) + k from by omega] at hxk
          have HG := Lib.hid (slotsOk_succ (o := ⟨pos, S, p, g, t⟩) (zs := zs) hok.out)
          have HB := Lib.hid (slotsOk_bad (o := ⟨pos, S, p, g, t⟩) (zs := zs) (n := S) hlk)
          simp only [Int.toNat_natCast] at HG HB
          generalize zs.getD (pos + 1 + k) 0 = x at *
          have hmeas : S - (intOf (.int .i64 ((k : Int) + 1))).toNat < S - (intOf (.int .i64 (k : Int))).toNat := by simp [intOf]; omega
          cases g with
          | true =>
            by_cases hx0 : x = 0
            · have hxb : (x == 0) = true := by simp [hx0]
              go_wp2_with fail
              exact ⟨⟨k + 1, by omega, by go_num, HG.out (by simp [slotOk, hx0])⟩, by simp [intOf]; omega⟩
            · have hxb : (x == 0) = false := by simp [hx0]
              go_wp2_with fail
              refine ⟨rfl, .inr (.inr ⟨by omega, HB.out (by simp [slotOk, hx0]), rfl⟩), ?_⟩
              (repeat (first | with_reducible exact Below.refl _ _ | with_reducible refine kp_alloc ?_ _ | with_reducible refine kp_drew ?_ | with_reducible refine kp_set ?_ (by first | omega | (simp; done) | (simp; omega)) _ | with_reducible refine kp_tr ?_ (by with_reducible assumption)))
          | false =>
            by_cases hkp : (k : Int) < p
            · have hkd : decide ((k : Int) < p) = true := decide_eq_true hkp
              go_wp2_with fail
              refine (pointer_any x _ hzk.1 hzk.2).mono ?_; rintro e ww ⟨rfl, rfl⟩
              rcases hpb : ptrB x with _ | _
              · go_wp2_with fail
                refine ⟨rfl, .inr (.inr ⟨by omega, HB.out (by simp [slotOk, hkp, hpb]), rfl⟩), ?_⟩
                (repeat (first | with_reducible exact Below.refl _ _ | with_reducible refine kp_alloc ?_ _ | with_reducible refine kp_drew ?_ | with_reducible refine kp_set ?_ (by first | omega | (simp; done) | (simp; omega)) _ | with_reducible refine kp_tr ?_ (by with_reducible assumption)))
              · go_wp2_with fail
                exact ⟨⟨k + 1, by omega, by go_num, HG.out (by simp [slotOk, hpb])⟩, by simp [intOf]; omega⟩
            · have hkd : decide ((k : Int) < p) = false := decide_eq_false hkp
              go_wp2_with fail
              exact ⟨⟨k + 1, by omega, by go_num, HG.out (by simp [slotOk, hkp])⟩, by simp [intOf]; omega⟩
        · obtain rfl : k = S := by omega
          go_wp2_with fail
          go_end0
          refine ⟨.inr (.inl ⟨by omega, hok.out, rfl⟩), ?_⟩
          (repeat (first | with_reducible exact Below.refl _ _ | with_reducible refine kp_alloc ?_ _ | with_reducible refine kp_drew ?_ | with_reducible refine kp_set ?_ (by first | omega | (simp; done) | (simp; omega)) _ | with_reducible refine kp_tr ?_ (by with_reducible assumption)))
end Go.Proofs.Ytpgjploaliefdaa.ob
