/- Part 27 of what the proofs stand on: lemmas on worlds, on goroutines, contracts of functions. No conditions. -/
import Derived.Test.YtgfgoflhmikalaaM26
import Derived.Deep.RegionHeld3
import Derived.Defers
import Derived.Laws.Pointers
import Derived.Laws.LoneSync
import Derived.RegionTactic
import Derived.RegionCalls
import Derived.ChangeAlike
import Derived.Laws.BytesArg
import Derived.Laws.IdiomStrings
import Derived.Laws.AppendOwn
import Derived.Maps.AppendAt
import Derived.Laws.OwnMore
import Derived.Laws.StructEq
import Derived.WalkMore
import Derived.OwnWalk
namespace Go.Proofs.Ytgfgoflhmikalaa.cw
open Go.RowKit Go.Proofs.Ytgfgoflhmikalaa.cm
set_option linter.unusedVariables false
set_option linter.unusedSimpArgs false
variable {HC : Code}
attribute [local irreducible] Go.Proofs.Ytgfgoflhmikalaa.par.loneP

theorem poly_val : ((poly : Nat) : Int) = 3988292384 := by unfold poly; rfl
theorem half_odd {c : Nat} (h : c % 2 = 1) : halfN c = (c / 2) ^^^ 3988292384 := by unfold halfN poly; rw [if_pos h]
theorem half_even {c : Nat} (h : ¬ c % 2 = 1) : halfN c = c / 2 := by unfold halfN; rw [if_neg h]
theorem halved_any (c : Nat) (w : World) (h : c < 4294967296) :
    Calls (Go.Proofs.Ytgfgoflhmikalaa.par.loneP HC) 90 #[.int .u32 (c : Int)] w fun e w' => e = .returned (.int .u32 ((halfN c : Nat) : Int)) ∧ w = w' := by
  by_cases h1 : c % 2 = 1
  · have H := Lib.hid (half_odd h1)
    have hx := u32_xor_nat (c / 2) 3988292384 (by omega) (by omega)
    rw [show ((c / 2 : Nat) : Int) = (c : Int) / 2 from by omega, show ((3988292384 : Nat) : Int) = 3988292384 from rfl] at hx
    have h2 : ((c : Int) % 2 == 1) = true := by simp; omega
    clear h1
    go_enter (Go.Proofs.Ytgfgoflhmikalaa.par.lfun90 (H := HC)), Try.ntmps90
    go_wp2
    go_ret
    exact retI (by rw [H.out]) rfl
  · have H := Lib.hid (half_even h1)
    have h2 : ((c : Int) % 2 == 1) = false := by simp; omega
    clear h1
    go_enter (Go.Proofs.Ytgfgoflhmikalaa.par.lfun90 (H := HC)), Try.ntmps90
    go_wp2
    go_ret
    exact retI (by rw [H.out]; omega) rfl
theorem zero_any (c : Nat) (w : World) (h : c < 4294967296) :
    Calls (Go.Proofs.Ytgfgoflhmikalaa.par.loneP HC) 85 #[.int .u32 (c : Int)] w fun e w' => e = .returned (.int .u32 ((zeroN c : Nat) : Int)) ∧ w = w' := by
  go_enter (Go.Proofs.Ytgfgoflhmikalaa.par.lfun85 (H := HC)), Try.ntmps85
  go_wp2_with fail
  go_loop [0, 3] (fun v i => ∃ k : Nat, k ≤ 8 ∧ i = .int .i64 k ∧ v = .int .u32 ((iter halfN k c : Nat) : Int)) (fun _ i => 8 - (intOf i).toNat)
  case atStart => exact ⟨0, by omega, rfl, rfl⟩
  case round =>
    obtain ⟨k, hk, rfl, rfl⟩ := hrel
    by_cases hlt : k < 8
    · go_wp2_with fail
      refine (halved_any _ _ (iter_lt _ h)).mono ?_; rintro e w' ⟨rfl, rfl⟩
      go_wp2_with fail
      exact ⟨⟨k + 1, by omega, by go_num, by rw [iter_succ']⟩, by simp [intOf]; omega⟩
    · obtain rfl : k = 8 := by omega
      go_wp2_with fail
      go_ret
      exact ⟨rfl, rfl⟩
def LaidPost (n : Nat) (cs : Array Value) (w : World) (e : Ending) (w' : World) : Prop :=
  e = .returned (.tuple #[]) ∧ Only n w w' ∧ ∃ cs' : Array Value, Blk w' n cs' 108 ∧ cs'.size = 259 ∧ (∀ j, j < 3 → cs'[j]? = cs[j]?) ∧ ∀ i, i < 256 → cs'[3 + i]? = some (.int .u32 ((zeroN i : Nat) : Int))
set_option maxRecDepth 100000 in
theorem lay_any (n : Nat) (cs : Array Value) (w : World) (hB : Blk w n cs 108) (hsz : cs.size = 259) :
    Calls (Go.Proofs.Ytgfgoflhmikalaa.par.loneP HC) 76 #[.pointer (some ⟨n, 0, none⟩)] w (LaidPost n cs w) := by
  go_enter (Go.Proofs.Ytgfgoflhmikalaa.par.lfun76 (H := HC)), Try.ntmps76
  go_wp2_with fail
  go_loopw [3] (fun i wr => ∃ k : Nat, k ≤ 256 ∧ i = .int .i64 k ∧ Only n w wr ∧ ∃ cs' : Array Value, Blk wr n cs' 108 ∧ cs'.size = 259 ∧ (∀ j, j < 3 → cs'[j]? = cs[j]?) ∧ ∀ i, i < k → cs'[3 + i]? = some (.int .u32 ((zeroN i : Nat) : Int))) (fun i _ => 256 - (intOf i).toNat)
  case atStart => exact ⟨0, by omega, rfl, Only.refl _ _, cs, hB, hsz, fun _ _ => rfl, fun _ h => by omega⟩
  case round =>
    obtain ⟨k, hk, rfl, ho, cs', hB', hsz', hj, hi⟩ := hrel
    by_cases hlt : k < 256
    · obtain ⟨l1, c1, f1⟩ := hB'.get
      obtain ⟨v0, hcell⟩ : ∃ v, wr.cell? ⟨n, 3 + k, none⟩ = some v := Option.isSome_iff_exists.1 (by rw [c1]; simp; omega)
      clear c1
      have HJ := Lib.hid hj
      have HI := Lib.hid hi
      have HS := Lib.hid hsz
      have HS' := Lib.hid hsz'
      clear hj hi hsz hsz'
      have hk3 : k < 4294967296 := by omega
      go_wp2_with fail
      have hki : (k : Int) < 256 := by omega
      have hki0 : (0 : Int) ≤ (k : Int) := by omega
      have hw := wr_u32 k (by omega)
      go_region_held3 (fun _ => True) (go_keep) (first | (go_at_call 85; refine (zero_any k _ hk3).mono ?_; rintro e ww ⟨rfl, rfl⟩))
      clear hw
      go_wp2_with fail
      refine ⟨⟨k + 1, by omega, by go_num, (ho.set _ _).drew, cs'.setIfInBounds (3 + k) (.int .u32 ((zeroN k : Nat) : Int)), (hB'.set _ _).drew, by simpa using HS'.out, fun j hj => ?_, fun i hi => ?_⟩, by simp [intOf]; omega⟩
      · rw [fix_get (by omega)]; exact HJ.out j hj
      · by_cases h : i = k
        · subst h; exact fix_same (by rw [HS'.out]; omega)
        · rw [fix_get (by omega)]; exact HI.out i (by omega)
    · obtain rfl : k = 256 := by omega
      go_wp2_with fail
      go_end0
      exact ⟨rfl, ho, cs', hB', hsz', hj, hi⟩

theorem b32_t (w : World) : Calls (Go.Proofs.Ytgfgoflhmikalaa.par.loneP HC) 94 #[.bool true] w fun e w' => e = .returned (.int .u32 1) ∧ w = w' := by
  go_enter (Go.Proofs.Ytgfgoflhmikalaa.par.lfun94 (H := HC)), Try.ntmps94
  go_wp2
  go_ret
  exact ⟨rfl, rfl⟩
theorem store_deferred (a : Addr) (x : Value) (u : FrameMode) (w : World) (hc : w.cell? a = some x) (hz : w.frozen? a = false) :
    CallsD (Go.Proofs.Ytgfgoflhmikalaa.par.loneP HC) 89 #[.pointer (some a), .bool true] u w fun e u' w' => u' = u ∧ (e = .returned (.tuple #[]) ∧ w' = w.drew.setCell a (.int .u32 1)) := by
  have hc' : w.drew.cell? a = some x := by go_simp
  have hz' : w.drew.frozen? a = false := by go_simp
  have hst := run_call_store (P := (Go.Proofs.Ytgfgoflhmikalaa.par.loneP HC)) (Go.Proofs.Ytgfgoflhmikalaa.par.lfun93 (H := HC)) (by kernel_rfl) (by kernel_rfl) (by kernel_rfl) (by kernel_rfl) (k := .u32) (y := 1) hc' hz'
  go_enter_d (Go.Proofs.Ytgfgoflhmikalaa.par.lfun89 (H := HC)), Try.ntmps89
  go_wp2
  go_region_held3 (fun _ => True) (go_keep) (first | (go_at_call 94; refine (b32_t _).mono ?_; rintro e ww ⟨rfl, rfl⟩))
  all_goals (go_end0; exact ⟨rfl, rfl⟩)
theorem unlock_deferred (n o : Nat) (u : FrameMode) (w : World) (hc : w.cell? ⟨n, o, none⟩ = some (.int .i32 1)) (hz : w.frozen? ⟨n, o, none⟩ = false) :
    CallsD (Go.Proofs.Ytgfgoflhmikalaa.par.loneP HC) 88 #[.pointer (some ⟨n, o, none⟩)] u w fun e u' w' => u' = u ∧ (e = .returned (.tuple #[]) ∧ w' = (w.setCell ⟨n, o, none⟩ (.int .i32 0)).alloc par.muxO) := by
  go_enter_d (Go.Proofs.Ytgfgoflhmikalaa.par.lfun88 (H := HC)), Try.ntmps88
  go_wp2_with (go_at_call 92; refine (par.lone_unlk n o _ hc hz).mono ?_; rintro e w' ⟨rfl, rfl⟩)
  go_end0
  exact ⟨rfl, rfl⟩
theorem lock_free (n o : Nat) (w : World) (hc : w.cell? ⟨n, o, none⟩ = some (.int .i32 0)) (hz : w.frozen? ⟨n, o, none⟩ = false) :
    Calls (Go.Proofs.Ytgfgoflhmikalaa.par.loneP HC) 87 #[.pointer (some ⟨n, o, none⟩)] w fun e w' => e = .returned (.tuple #[]) ∧ w' = (w.setCell ⟨n, o, none⟩ (.int .i32 1)).alloc par.muxO := by
  go_enter (Go.Proofs.Ytgfgoflhmikalaa.par.lfun87 (H := HC)), Try.ntmps87
  go_wp2_with (go_at_call 91; refine (par.lone_lk n o _ hc hz).mono ?_; rintro e w' ⟨rfl, rfl⟩)
  go_end0
  exact ⟨rfl, rfl⟩

structure Fresh (cs : Array Value) : Prop where
  size : cs.size = 259
  done : cs[0]? = some (.int .u32 0)
  state : cs[1]? = some (.int .i32 0)
structure Laid (cs : Array Value) : Prop where
  size : cs.size = 259
  done : cs[0]? = some (.int .u32 1)
  makes : ∀ i, i < 256 → cs[3 + i]? = some (.int .u32 ((zeroN i : Nat) : Int))
def OncePost (n : Nat) (w : World) (e : Ending) (w' : World) : Prop :=
  e = .returned (.tuple #[]) ∧ Only n w w' ∧ ∃ cs' : Array Value, Blk w' n cs' 108 ∧ Laid cs'
theorem load_0 (a : Addr) (w : World) (h : w.cell? a = some (.int .u32 0)) :
    Calls (Go.Proofs.Ytgfgoflhmikalaa.par.loneP HC) 83 #[.pointer (some a)] w fun e w' => e = .returned (.bool false) ∧ w = w' := by
  have hl := run_call_load (P := (Go.Proofs.Ytgfgoflhmikalaa.par.loneP HC)) (Go.Proofs.Ytgfgoflhmikalaa.par.lfun86 (H := HC)) (by kernel_rfl) (by kernel_rfl) (by kernel_rfl) .u32 (by kernel_rfl) h
  go_enter (Go.Proofs.Ytgfgoflhmikalaa.par.lfun83 (H := HC)), Try.ntmps83
  go_wp2
  go_ret
  exact ⟨rfl, rfl⟩
theorem load_1 (a : Addr) (w : World) (h : w.cell? a = some (.int .u32 1)) :
    Calls (Go.Proofs.Ytgfgoflhmikalaa.par.loneP HC) 83 #[.pointer (some a)] w fun e w' => e = .returned (.bool true) ∧ w = w' := by
  have hl := run_call_load (P := (Go.Proofs.Ytgfgoflhmikalaa.par.loneP HC)) (Go.Proofs.Ytgfgoflhmikalaa.par.lfun86 (H := HC)) (by kernel_rfl) (by kernel_rfl) (by kernel_rfl) .u32 (by kernel_rfl) h
  go_enter (Go.Proofs.Ytgfgoflhmikalaa.par.lfun83 (H := HC)), Try.ntmps83
  go_wp2
  go_ret
  exact ⟨rfl, rfl⟩
set_option maxRecDepth 100000 in
theorem slow_any (n : Nat) (cs : Array Value) (w : World) (hB : Blk w n cs 108) (hF : Fresh cs) :
    Calls (Go.Proofs.Ytgfgoflhmikalaa.par.loneP HC) 84 #[.pointer (some ⟨n, 0, none⟩), .func (.func 76) #[.pointer (some ⟨n, 0, none⟩)] #[]] w (OncePost n w) := by
  have hB1 : Blk ((w.setCell ⟨n, 1, none⟩ (.int .i32 1)).alloc par.muxO) n (cs.setIfInBounds 1 (.int .i32 1)) 108 := (hB.set 1 _).alloc _
  have g1 : w.cell? ⟨n, 1, none⟩ = some (.int .i32 0) := (hB.get.2.1 1).trans hF.state
  have z1 : w.frozen? ⟨n, 1, none⟩ = false := hB.get.2.2 1
  have g0 : ((w.setCell ⟨n, 1, none⟩ (.int .i32 1)).alloc par.muxO).cell? ⟨n, 0, none⟩ = some (.int .u32 0) := by rw [hB1.get.2.1 0, fix_get (by omega)]; exact hF.done
  have hnot : ∀ (x : Bool) (w : World), (Op.unary .not (.bool x)).run (Go.Proofs.Ytgfgoflhmikalaa.par.loneP HC) w = .ok (.bool (!x)) w := fun _ _ => rfl
  go_enter_defers (Go.Proofs.Ytgfgoflhmikalaa.par.lfun84 (H := HC)), Try.ntmps84
  go_wp2_with (go_at_call 87; refine (lock_free n 1 _ g1 z1).mono ?_; rintro e w' ⟨rfl, rfl⟩)
  refine (load_0 ⟨n, 0, none⟩ _ g0).mono ?_; rintro e w' ⟨rfl, rfl⟩
  go_wp2_with fail
  refine (lay_any n _ _ hB1 (by simpa using hF.size)).mono ?_; rintro e w2 ⟨rfl, ho, cs2, hB2, hsz, hj, hi⟩
  have HJ := Lib.hid hj
  have HI := Lib.hid hi
  clear hj hi
  go_wp2_with fail
  have hB3 : Blk (w2.drew.setCell ⟨n, 0, none⟩ (.int .u32 1)) n (cs2.setIfInBounds 0 (.int .u32 1)) 108 := hB2.drew.set 0 _
  refine leaves_cons (f := 89) (args := #[.pointer (some ⟨n, 0, none⟩), .bool true]) (by simp) (by simp [go_sem]) ?_
  refine (store_deferred ⟨n, 0, none⟩ (.int .u32 0) .returning _ ?_ (hB2.get.2.2 0)).mono ?_
  · rw [hB2.get.2.1 0, HJ.out 0 (by omega), fix_get (by omega)]; exact hF.done
  rintro e u' w'' ⟨rfl, rfl, rfl⟩
  refine leaves_cons (f := 88) (args := #[.pointer (some ⟨n, 1, none⟩)]) (by simp [settle]) (by simp [go_sem]) ?_
  refine (unlock_deferred n 1 _ _ ?_ (hB3.get.2.2 1)).mono ?_
  · rw [hB3.get.2.1 1, fix_get (by omega), HJ.out 1 (by omega)]; exact fix_same (by rw [hF.size]; omega)
  rintro e u' w'' ⟨rfl, rfl, rfl⟩
  show ∃ v, (results Try.f84 _).run (Go.Proofs.Ytgfgoflhmikalaa.par.loneP HC) _ = .ok v _ ∧ OncePost n w (.returned v) _
  refine ⟨.tuple #[], by simp [results, Try.results84, go_sem], rfl, ((((((Only.refl n w).set 1 _).alloc _).trans ho).drew.set 0 _).set 1 _).alloc _, _, (hB3.set 1 _).alloc _, by simpa using hsz, ?_, fun i hi => ?_⟩
  · rw [fix_get (by omega)]; exact fix_same (by rw [hsz]; omega)
  · rw [fix_get (by omega), fix_get (by omega)]; exact HI.out i hi
set_option maxRecDepth 100000 in
theorem do_first (n : Nat) (cs : Array Value) (w : World) (hB : Blk w n cs 108) (hF : Fresh cs) :
    Calls (Go.Proofs.Ytgfgoflhmikalaa.par.loneP HC) 75 #[.pointer (some ⟨n, 0, none⟩), .func (.func 76) #[.pointer (some ⟨n, 0, none⟩)] #[]] w (OncePost n w) := by
  have g0 : w.cell? ⟨n, 0, none⟩ = some (.int .u32 0) := (hB.get.2.1 0).trans hF.done
  have hnot : ∀ (x : Bool) (w : World), (Op.unary .not (.bool x)).run (Go.Proofs.Ytgfgoflhmikalaa.par.loneP HC) w = .ok (.bool (!x)) w := fun _ _ => rfl
  go_enter (Go.Proofs.Ytgfgoflhmikalaa.par.lfun75 (H := HC)), Try.ntmps75
  go_wp2_with fail
  refine (load_0 ⟨n, 0, none⟩ _ g0).mono ?_; rintro e w' ⟨rfl, rfl⟩
  go_wp2_with fail
  refine (slow_any n cs _ hB hF).mono ?_; rintro e w2 ⟨rfl, ho, hp⟩
  have HP := Lib.hid hp
  clear hp
  go_wp2_with fail
  go_end0
  exact ⟨rfl, ho, HP.out⟩
theorem do_done (n : Nat) (cs : Array Value) (w : World) (f : Value) (hB : Blk w n cs 108) (hF : Laid cs) :
    Calls (Go.Proofs.Ytgfgoflhmikalaa.par.loneP HC) 75 #[.pointer (some ⟨n, 0, none⟩), f] w (OncePost n w) := by
  have g0 : w.cell? ⟨n, 0, none⟩ = some (.int .u32 1) := (hB.get.2.1 0).trans hF.done
  have hnot : ∀ (x : Bool) (w : World), (Op.unary .not (.bool x)).run (Go.Proofs.Ytgfgoflhmikalaa.par.loneP HC) w = .ok (.bool (!x)) w := fun _ _ => rfl
  go_enter (Go.Proofs.Ytgfgoflhmikalaa.par.lfun75 (H := HC)), Try.ntmps75
  go_wp2_with fail
  refine (load_1 ⟨n, 0, none⟩ _ g0).mono ?_; rintro e w' ⟨rfl, rfl⟩
  go_wp2_with fail
  go_end0
  exact ⟨rfl, Only.refl _ _, cs, hB, hF⟩
theorem do_any (n : Nat) (cs : Array Value) (w : World) (hB : Blk w n cs 108) (hF : Fresh cs ∨ Laid cs) :
    Calls (Go.Proofs.Ytgfgoflhmikalaa.par.loneP HC) 75 #[.pointer (some ⟨n, 0, none⟩), .func (.func 76) #[.pointer (some ⟨n, 0, none⟩)] #[]] w (OncePost n w) := by
  rcases hF with h | h
  · exact do_first n cs w hB h
  · exact do_done n cs w _ hB h
def UpPost (n : Nat) (v : Int) (w : World) (e : Ending) (w' : World) : Prop :=
  e = .returned (.int .u32 v) ∧ Only n w w' ∧ ∃ cs' : Array Value, Blk w' n cs' 108 ∧ Laid cs'
theorem up_any (n : Nat) (cs : Array Value) (c b : Nat) (w : World) (hB : Blk w n cs 108) (hF : Fresh cs ∨ Laid cs) (hc : c < 4294967296) (hb : b < 256) :
    Calls (Go.Proofs.Ytgfgoflhmikalaa.par.loneP HC) 52 #[.pointer (some ⟨n, 0, none⟩), .int .u32 (c : Int), .int .u8 (b : Int)] w (UpPost n ((upN c b : Nat) : Int) w) := by
  have hx := u8_xor_nat (c % 256) b (by omega) hb
  rw [show ((c % 256 : Nat) : Int) = (c : Int) % 256 from by omega] at hx
  have hxl : (c % 256) ^^^ b < 256 := xor_byte_lt (by omega) hb
  have hy := u32_xor_nat (zeroN ((c % 256) ^^^ b)) (c / 256) (zeroN_lt (by omega)) (by omega)
  rw [show ((c / 256 : Nat) : Int) = (c : Int) / 256 from by omega, table_up] at hy
  generalize hi : (c % 256) ^^^ b = i at hx hy hxl
  clear hi
  have hmf : ∀ (fn : Fn) (first cap : Array Value) (w : World), (Instr.makeFunc fn first cap).run (Go.Proofs.Ytgfgoflhmikalaa.par.loneP HC) w = .ok (.func fn first cap) w := fun _ _ _ _ => rfl
  go_enter (Go.Proofs.Ytgfgoflhmikalaa.par.lfun52 (H := HC)), Try.ntmps52
  go_wp2_with fail
  refine (do_any n cs _ hB hF).mono ?_; rintro e w2 ⟨rfl, ho, cs2, hB2, hL⟩
  have hcell : w2.cell? ⟨n, 3 + i, none⟩ = some (.int .u32 ((zeroN i : Nat) : Int)) := (hB2.get.2.1 _).trans (hL.makes i hxl)
  have hLt := hB2.lt
  go_wp2_with fail
  go_ret
  exact ⟨rfl, ho, cs2, hB2, hL⟩
end Go.Proofs.Ytgfgoflhmikalaa.cw

namespace Go.Proofs.Ytgfgoflhmikalaa.cw
open Go.RowKit Go.Proofs.Ytgfgoflhmikalaa.cm
set_option linter.unusedVariables false
set_option linter.unusedSimpArgs false
variable {HC : Code}
attribute [local irreducible] Go.Proofs.Ytgfgoflhmikalaa.par.loneP
def takerZ : Array Value := #[.int .u32 0, .int .i32 0, .int .u32 0] ++ Array.replicate 256 (.int .u32 0)
theorem zero_taker (w : World) : Sem.run (Go.Proofs.Ytgfgoflhmikalaa.par.loneP HC) (zeroValue 108) w = .ok (.agg takerZ) w := by kernel_rfl
theorem fresh_takerZ : Fresh takerZ := ⟨by kernel_rfl, by kernel_rfl, by kernel_rfl⟩
attribute [irreducible] takerZ
def bytesN (s : ByteArray) : List Nat := s.data.toList.map UInt8.toNat
theorem bytesN_len (s : ByteArray) : (bytesN s).length = s.size := by simp [bytesN]
theorem bytesN_lt (s : ByteArray) : ∀ b ∈ bytesN s, b < 256 := by
  intro b hb
  obtain ⟨x, _, rfl⟩ := List.mem_map.1 hb
  exact x.toNat_lt
theorem bytesN_snoc (s : ByteArray) (k : Nat) (h : k < s.size) : (bytesN s).take (k + 1) = (bytesN s).take k ++ [s[k].toNat] := by
  have hl : k < (bytesN s).length := by rw [bytesN_len]; exact h
  rw [List.take_succ_eq_append_getElem hl]
  congr 2
  simp [bytesN]; rfl
def MorePost (v : Int) (w : World) (e : Ending) (w' : World) : Prop := e = .returned (.int .u32 v) ∧ Below w.heap.size w w'
set_option maxRecDepth 100000 in
theorem more_any (c : Nat) (s : ByteArray) (w : World) (h : c < 4294967296) (hs : s.size ≤ maxLen) :
    Calls (Go.Proofs.Ytgfgoflhmikalaa.par.loneP HC) 39 #[.int .u32 (c : Int), .string s] w (MorePost ((moreN c (bytesN s) : Nat) : Int) w) := by
  unfold maxLen at hs
  have hz := zero_taker (HC := HC)
  have hx := u32_xor_nat c 4294967295 h (by omega)
  rw [show ((4294967295 : Nat) : Int) = 4294967295 from rfl] at hx
  have hct : c ^^^ 4294967295 = c ^^^ top32 := by unfold top32; rfl
  rw [hct] at hx
  have hc0 : c ^^^ top32 < 4294967296 := xor32_lt h (by unfold top32; omega)
  have HM : Hid (moreN c (bytesN s) = feedN (c ^^^ top32) (bytesN s) ^^^ top32) := rfl
  generalize hg : c ^^^ top32 = c0 at hx hc0 HM
  clear hg hct
  have hend := u32_xor_nat (feedN c0 (bytesN s)) 4294967295 (feedN_lt _ hc0 (bytesN_lt s)) (by omega)
  rw [show ((4294967295 : Nat) : Int) = 4294967295 from rfl] at hend
  have HE := Lib.hid hend
  clear hend
  go_enter (Go.Proofs.Ytgfgoflhmikalaa.par.lfun39 (H := HC)), Try.ntmps39
  go_wp2_with fail
  go_loopw [0, 12] (fun v i wr => ∃ k : Nat, k ≤ s.size ∧ i = .int .i64 k ∧ v = .int .u32 ((feedN c0 ((bytesN s).take k) : Nat) : Int) ∧ Below w.heap.size w wr ∧ ∃ cs : Array Value, Blk wr w.heap.size cs 108 ∧ (Fresh cs ∨ Laid cs)) (fun _ i _ => s.size - (intOf i).toNat)
  case atStart => exact ⟨0, Nat.zero_le _, rfl, rfl, by (repeat (first | with_reducible exact Below.refl _ _ | with_reducible refine kp_alloc ?_ _ | with_reducible refine kp_drew ?_ | with_reducible refine kp_set ?_ (by first | omega | (simp; done) | (simp; omega)) _ | with_reducible refine kp_tr ?_ (by with_reducible assumption))), takerZ, Blk.new _ _ _, .inl fresh_takerZ⟩
  case round =>
    obtain ⟨k, hk, rfl, rfl, hb, cs, hB, hF⟩ := hrel
    have hfl : feedN c0 ((bytesN s).take k) < 4294967296 := feedN_lt _ hc0 (fun b hb => bytesN_lt s b (List.mem_of_mem_take hb))
    by_cases hlt : k < s.size
    · have HS : Hid (feedN c0 ((bytesN s).take (k + 1)) = upN (feedN c0 ((bytesN s).take k)) s[k].toNat) := by rw [bytesN_snoc s k hlt]; exact feedN_snoc _ _ _
      generalize hq : feedN c0 ((bytesN s).take k) = q at *
      clear hq
      go_wp2_with fail
      refine (up_any w.heap.size cs q _ _ hB hF hfl s[k].toNat_lt).mono ?_; rintro e w2 ⟨rfl, ho, hp⟩
      have HP := Lib.hid hp
      clear hp
      go_wp2_with fail
      obtain ⟨cs2, hB2, hL⟩ := HP.out
      exact ⟨⟨k + 1, by omega, by go_num, by rw [HS.out], ho.below hb (Nat.le_refl _), cs2, hB2, .inr hL⟩, by simp [intOf]; omega⟩
    · obtain rfl : k = s.size := by omega
      have ht : (bytesN s).take s.size = bytesN s := List.take_of_length_le (by rw [bytesN_len]; omega)
      rw [ht]
      have hE := HE.out
      go_wp2_with fail
      go_ret
      refine ⟨?_, hb⟩
      rw [HM.out]; unfold top32; rfl
theorem sum_any (s : ByteArray) (w : World) (hs : s.size ≤ maxLen) :
    Calls (Go.Proofs.Ytgfgoflhmikalaa.par.loneP HC) 27 #[.string s] w (MorePost ((sumN (bytesN s) : Nat) : Int) w) := by
  go_enter (Go.Proofs.Ytgfgoflhmikalaa.par.lfun27 (H := HC)), Try.ntmps27
  go_wp2_with fail
  refine (more_any 0 s _ (by omega) hs).mono ?_; rintro e w2 ⟨rfl, hb⟩
  go_wp2_with fail
  go_ret
  exact ⟨rfl, hb⟩
end Go.Proofs.Ytgfgoflhmikalaa.cw

namespace Go.Proofs.Ytgfgoflhmikalaa.fr
open Go.RowKit Go.Proofs.Ytgfgoflhmikalaa.cm Go.Proofs.Ytgfgoflhmikalaa.cw
set_option linter.unusedVariables false
set_option linter.unusedSimpArgs false
variable {HC : Code}
attribute [local irreducible] Go.Proofs.Ytgfgoflhmikalaa.par.loneP
theorem append_any {P : Program} {ops : Array Oper} {rest : List Oper} {o : Oper} {a : Act} {Q : Exit → Act → World → Prop} (w : World) (hw : Region.wanted o (yielded ops a.tmps) = true) (s x : Operand) (t : TypeId)
    (ho : o.op = .call { callee := .builtin .append, args := #[s, x], argTypes := #[t, t] })
    (base : Nat) (e : TypeId) (i : TypeInfo) (z : Value) (size bytes : Nat) (ht : P.underlying t = some (.slice e)) (hi : P.info? e = some i) (hz : i.zero = some z)
    (hsize : i.size = size) (hby : i.bytes = bytes) (hzs : z.cells.size = size) (hsz : 0 < size)
    (v : Value) (n : Nat) (xs : List Value) (hs : a.eval s = v) (hown : w.ownsRow base e size v n xs)
    (u : Value) (m : Nat) (news : List Value) (hx : a.eval x = u) (hsrc : (u = .slice none 0 0 ∧ m = 0 ∧ news = []) ∨ ∃ ad c, u = .slice (some ad) m c ∧ ∀ j y, news[j]? = some y → w.cell? (ad.add j) = some y)
    (hl : news.length = m * size) (h1 : ∀ u ∈ news, u.oneCell' = true)
    (h63 : n + m ≤ maxLen) (hbytes : (n + m) * bytes ≤ 140737488355328) (hbase : base ≤ w.heap.size)
    (h : ∀ v' w', w'.ownsRow base e size v' (n + m) (xs ++ news) → w.grownBy w' v.ownBlock → (v'.ownBlock = v.ownBlock ∨ v'.ownBlock = some w.heap.size) → wpList P ops Q rest (a.put o.dst v') w') : wpList P ops Q (o :: rest) a w := by
  refine wpList_step fun K hK => ?_
  rw [if_pos hw]
  rcases hsrc with ⟨rfl, rfl, rfl⟩ | ⟨ad, c, rfl, hnews⟩
  · have hr := run_append_owned_none (P := P) (w := w) base t o.type e i size ht hi v n xs hown
    unfold Oper.wp execOp
    simp only [ho, resolve, invoke, builtin, Sem.run_bind, Sem.run_pure, Result.andThen_ok, List.map_toArray, List.map_cons, List.map_nil, hs, hx, hr]
    exact hK _ _ (h v w (by simpa using hown) ⟨rfl, rfl, rfl, Nat.le_refl _, fun _ _ _ => rfl⟩ (.inl rfl))
  · obtain ⟨v', w', hr, h2, h3, h4, h5⟩ := run_append_own_at (P := P) w base t o.type e i z size bytes ht hi hz hsize hby hzs hsz v n xs hown ad m c news hl hnews h1 h63 hbytes hbase
    unfold Oper.wp execOp
    simp only [ho, resolve, invoke, builtin, Sem.run_bind, Sem.run_pure, Result.andThen_ok, List.map_toArray, List.map_cons, List.map_nil, hs, hx, hr]
    exact hK _ _ (h v' w' h2 h3 h5)
theorem below_grown {A B : World} (h : Below A.heap.size A B) (row : Option Nat) : A.grownBy B row := ⟨h.os, h.tape, h.output, h.size, fun k hk _ => h.block k hk⟩
/-- Worlds that differ above B alone, or in a block of one's own. -/
theorem grown_below {C : Nat} {w w' : World} {v : Value} {W : World} (hg : w.grownBy w' v.ownBlock) (hb : Below C W w) (hC : C ≤ W.heap.size) (ho : ∀ k, v.ownBlock = some k → C ≤ k) : Below C W w' :=
  ⟨hg.os.trans hb.os, hg.tape.trans hb.tape, hg.output.trans hb.output, Nat.le_trans hb.size hg.size, fun j hj => (hg.block j (by have := hb.size; omega) (fun e => by have := ho _ e.symm; omega)).trans (hb.block j hj)⟩
theorem bel_alloc {C : Nat} {W w : World} (h : Below C W w) (hC : C ≤ W.heap.size) (o : Obj) : Below C W (w.alloc o) :=
  ⟨h.os, h.tape, h.output, by have := h.size; show _ ≤ (w.heap.push _).size; simp; omega, fun j hj => (Below.heap_alloc w o j (by have := h.size; omega)).trans (h.block j hj)⟩
def byteV (x : Nat) : Value := .int .u8 (x : Int)
/-- A slice of bytes of one's own. -/
def OwnB (W : World) (B : Nat) (v : Value) (zs : List Nat) : Prop := W.ownsRow B 5 1 v zs.length (zs.map byteV)
theorem OwnB.nil (W : World) (B : Nat) : OwnB W B (.slice none 0 0) [] := World.ownsRow_nil _ _ _ _
theorem OwnB.tr {W w : World} {B : Nat} {v : Value} {zs : List Nat} (h : OwnB W B v zs) (hb : Below W.heap.size W w) : OwnB w B v zs := by
  refine World.ownsRow.kept h (below_grown hb none) ?_
  rcases hv : v.ownBlock with _ | k
  · exact .inl rfl
  · exact .inr (fun e => by cases e)
theorem OwnB.lift {W : World} {B C : Nat} {v : Value} {zs : List Nat} (h : OwnB W B v zs) (hb : C ≤ B) : OwnB W C v zs := by
  refine ⟨h.1, ?_⟩
  rcases h.2 with h | ⟨g, cap, cur, h1, h2, h3⟩
  · exact .inl h
  · exact .inr ⟨g, cap, cur, h1, by omega, h3⟩
theorem OwnB.block {W : World} {B : Nat} {v : Value} {zs : List Nat} (h : OwnB W B v zs) : ∀ k, v.ownBlock = some k → B ≤ k := by
  intro k hk
  rcases h.2 with ⟨rfl, _⟩ | ⟨g, cap, cur, rfl, h2, _⟩
  · cases hk
  · cases hk
    exact h2
theorem OwnB.str {W : World} {B : Nat} {v : Value} {zs : List Nat} (h : OwnB W B v zs) (hz : 0 < zs.length) :
    (convert 45 9 v).run (Go.Proofs.Ytgfgoflhmikalaa.par.loneP HC) W = .ok (.string (strOfNums (zs.map fun b : Nat => (b : Int)))) W := by
  rcases h.2 with ⟨rfl, h1⟩ | ⟨g, cap, cur, rfl, h1, h2, h3, h4, h5, h6⟩
  · omega
  · refine run_convert_bytes_arg (P := (Go.Proofs.Ytgfgoflhmikalaa.par.loneP HC)) W 45 5 ((Go.Proofs.Ytgfgoflhmikalaa.par.lon_underlying HC 45).trans Try.underlying45) ((Go.Proofs.Ytgfgoflhmikalaa.par.lon_underlying HC 5).trans Try.underlying5) g 0 zs.length cap (zs.map fun b : Nat => (b : Int)) (by simp) (fun i hi => ?_) 9 ((Go.Proofs.Ytgfgoflhmikalaa.par.lon_underlying HC 9).trans Try.underlying9)
    have h7 := World.ownsRow.cells h (g := g) rfl i (byteV (zs.getD i 0)) (by simp [List.getD, List.getElem?_eq_getElem hi])
    have e : (⟨g, 0, none⟩ : Addr).add i = ⟨g, i, none⟩ := by unfold Addr.add; split <;> simp_all
    rw [e] at h7
    rw [Nat.zero_add, h7]
    simp [byteV, List.getD, hi]
theorem info_u8 : ((Go.Proofs.Ytgfgoflhmikalaa.par.loneP HC).info? 5).map (fun i => (i.zero, i.size, i.bytes)) = some (some (.int .u8 0), 1, 1) := by kernel_rfl
theorem app_B {ops : Array Oper} {rest : List Oper} {o : Oper} {a : Act} {Q : Exit → Act → World → Prop} (w : World) (hw : Region.wanted o (yielded ops a.tmps) = true) (s x : Operand)
    (ho : o.op = .call { callee := .builtin .append, args := #[s, x], argTypes := #[45, 45] })
    (B : Nat) (v : Value) (xs : List Nat) (y n c : Nat) (hs : a.eval s = v) (hx : a.eval x = .slice (some ⟨n, 0, none⟩) 1 c) (hown : OwnB w B v xs) (hc : w.cell? ⟨n, 0, none⟩ = some (byteV y)) (hbig : xs.length + 1 < 1000000000000) (hB : B ≤ w.heap.size)
    (h : ∀ v' w', OwnB w' B v' (xs ++ [y]) → w.grownBy w' v.ownBlock → (v'.ownBlock = v.ownBlock ∨ v'.ownBlock = some w.heap.size) → wpList (Go.Proofs.Ytgfgoflhmikalaa.par.loneP HC) ops Q rest (a.put o.dst v') w') : wpList (Go.Proofs.Ytgfgoflhmikalaa.par.loneP HC) ops Q (o :: rest) a w := by
  obtain ⟨i0, hi, hz0, hz1, hz2⟩ := info_parts info_u8
  refine append_any w hw s x _ ho B 5 i0 (.int .u8 0) 1 1 ((Go.Proofs.Ytgfgoflhmikalaa.par.lon_underlying HC 45).trans Try.underlying45) hi hz0 hz1 hz2 rfl (by decide) v xs.length (xs.map byteV) hs hown _ 1 [byteV y] hx (.inr ⟨_, _, rfl, fun j z hj => ?_⟩) rfl (fun u hu => ?_) (by unfold maxLen; omega) (by omega) hB ?_
  · rcases j with _ | j
    · cases hj
      exact hc
    · simp at hj
  · obtain rfl := List.mem_singleton.1 hu
    rfl
  · intro v' w' h2 h3 h4
    refine h v' w' ?_ h3 h4
    unfold OwnB
    simpa using h2
end Go.Proofs.Ytgfgoflhmikalaa.fr

namespace Go.Proofs.Ytgfgoflhmikalaa.fr
open Go.RowKit Go.Proofs.Ytgfgoflhmikalaa.cm Go.Proofs.Ytgfgoflhmikalaa.cw
set_option linter.unusedVariables false
set_option linter.unusedSimpArgs false
variable {HC : Code}
attribute [local irreducible] Go.Proofs.Ytgfgoflhmikalaa.par.loneP
/-- A number's bytes, the lowest one first. -/
def leB (n x : Nat) : List Nat := (List.range n).map fun i => x / 256 ^ i % 256
theorem leB_succ (n x : Nat) : leB (n + 1) x = leB n x ++ [x / 256 ^ n % 256] := by simp [leB, List.range_succ]
theorem leB_len (n x : Nat) : (leB n x).length = n := by simp [leB]
theorem leB_4 (x : Nat) : leB 4 x = le4 x := by
  show [x / 256 ^ 0 % 256, x / 256 ^ 1 % 256, x / 256 ^ 2 % 256, x / 256 ^ 3 % 256] = _
  unfold le4
  simp
def strB (l : List Nat) : ByteArray := strOfNums (l.map fun b : Nat => (b : Int))
theorem lay32_any (v : Value) (xs : List Nat) (x B n : Nat) (w : World) (hn : n ≤ 8) (hx : x < 4294967296) (hv : OwnB w B v xs) (hl : xs.length < 1000000) (hB : B ≤ w.heap.size) :
    Calls (Go.Proofs.Ytgfgoflhmikalaa.par.loneP HC) 38 #[v, .int .u32 x, .int .i64 n] w fun e w' => ∃ v', e = .returned v' ∧ OwnB w' B v' (xs ++ leB n x) ∧ Below B w w' := by
  go_enter (Go.Proofs.Ytgfgoflhmikalaa.par.lfun38 (H := HC)), Try.ntmps38
  go_wp2_with fail
  go_loopw [0, 1, 8] (fun b y i wr => ∃ k : Nat, k ≤ n ∧ i = .int .i64 k ∧ y = .int .u32 ((x / 256 ^ k : Nat) : Int) ∧ Hid (OwnB wr B b (xs ++ leB k x)) ∧ Hid (Below B w wr)) (fun _ _ i _ => n - (intOf i).toNat)
  case atStart => exact ⟨0, Nat.zero_le _, rfl, by simp, Lib.hid (by simpa [leB] using hv), Lib.hid (Below.refl _ _)⟩
  case round =>
    obtain ⟨k, hk, rfl, rfl, ho, hb⟩ := hrel
    by_cases hlk : k < n
    · have hq : x / 256 ^ k < 4294967296 := Nat.lt_of_le_of_lt (Nat.div_le_self _ _) hx
      have hq2 := leB_succ k x
      have hq3 : x / 256 ^ (k + 1) = x / 256 ^ k / 256 := by rw [Nat.pow_succ, Nat.div_div_eq_div_mul]
      have HQ := Lib.hid hq2
      have HR := Lib.hid hq3
      clear hq2 hq3
      generalize x / 256 ^ k = q at *
      have hwr := hb.out.size
      go_wp2_with (at_builtin; refine app_B _ rfl _ _ rfl B u0 (xs ++ leB k x) (q % 256) wr.heap.size 1 rfl rfl ?c0 ?c1 ?c2 ?c3 ?c4)
      case c0 => exact ho.out.tr (by (repeat (first | with_reducible exact Below.refl _ _ | with_reducible refine kp_alloc ?_ _ | with_reducible refine kp_drew ?_ | with_reducible refine kp_set ?_ (by first | omega | (simp; done) | (simp; omega)) _ | with_reducible refine kp_tr ?_ (by with_reducible assumption))))
      case c1 => simp [byteV]
      case c2 => simp [leB_len]; omega
      case c3 => simp; omega
      case c4 =>
      intro v' w2 ho2 hg hat
      have H2 : Hid (OwnB w2 B v' (xs ++ leB (k + 1) x)) := Lib.hid (by rw [HQ.out]; simpa using ho2)
      have H3 : Hid (Below B w w2) := Lib.hid (grown_below hg (bel_alloc hb.out hB _) hB ho.out.block)
      clear ho2 hg hat
      go_wp2_with fail
      refine ⟨⟨k + 1, by omega, by go_num, ?_, H2, H3⟩, by simp [intOf]; omega⟩
      rw [HR.out]
      rfl
    · obtain rfl : k = n := by omega
      go_wp2_with fail
      go_ret
      exact ⟨_, rfl, ho.out, hb.out⟩
/-- A number of 32 bits as four bytes. -/
def halfS (x : Nat) : ByteArray := strB (le4 x)
theorem putHalf_any (x : Nat) (w : World) (hx : x < 4294967296) :
    Calls (Go.Proofs.Ytgfgoflhmikalaa.par.loneP HC) 26 #[.int .u32 x] w fun e w' => e = .returned (.string (halfS x)) ∧ Below w.heap.size w w' := by
  go_enter (Go.Proofs.Ytgfgoflhmikalaa.par.lfun26 (H := HC)), Try.ntmps26
  go_wp2_with fail
  refine (lay32_any (.slice none 0 0) [] x w.heap.size 4 _ (by omega) hx (OwnB.nil _ _) (by simp) (by simp)).mono ?_; rintro e w1 ⟨v, rfl, ho, hb⟩
  have hs := ho.str (HC := HC) (by simp [leB_len])
  rw [List.nil_append, leB_4] at hs
  go_wp2_with fail
  go_ret
  exact ⟨rfl, hb⟩
end Go.Proofs.Ytgfgoflhmikalaa.fr

namespace Go.Proofs.Ytgfgoflhmikalaa.fr
open Go.RowKit Go.Proofs.Ytgfgoflhmikalaa.cm Go.Proofs.Ytgfgoflhmikalaa.cw
set_option linter.unusedVariables false
set_option linter.unusedSimpArgs false
variable {HC : Code}
attribute [local irreducible] Go.Proofs.Ytgfgoflhmikalaa.par.loneP
def cutV (a b s : Int) : Value := .agg #[.int .i64 a, .int .i64 b, .int .i64 s]
theorem next_any (a b s : Int) (w : World) (h1 : 0 ≤ s) (h2 : s < 1000000000000) :
    Calls (Go.Proofs.Ytgfgoflhmikalaa.par.loneP HC) 32 #[.agg #[.int .i64 a, .int .i64 b, .int .i64 s]] w fun e w' => e = .returned (.int .i64 (s + 4)) ∧ Below w.heap.size w w' := by
  go_enter (Go.Proofs.Ytgfgoflhmikalaa.par.lfun32 (H := HC)), Try.ntmps32
  go_wp2_with fail
  go_ret
  exact ⟨rfl, by (repeat (first | with_reducible exact Below.refl _ _ | with_reducible refine kp_alloc ?_ _ | with_reducible refine kp_drew ?_ | with_reducible refine kp_set ?_ (by first | omega | (simp; done) | (simp; omega)) _ | with_reducible refine kp_tr ?_ (by with_reducible assumption)))⟩
theorem s3_tr {W w1 : World} (hb : Below W.heap.size W w1) {p0 p1 p2 : Addr} {u0 u1 u2 : Value} (h : W.cell? p0 = some u0 ∧ W.cell? p1 = some u1 ∧ W.cell? p2 = some u2) :
    w1.cell? p0 = some u0 ∧ w1.cell? p1 = some u1 ∧ w1.cell? p2 = some u2 := ⟨cell_tr hb h.1, cell_tr hb h.2.1, cell_tr hb h.2.2⟩
/-- The sum that stands in the bytes is that of the frame's. -/
def gbE (s : ByteArray) (c : Int × Int × Int) : Bool := s.extract c.2.2.toNat (c.2.2 + 4).toNat == halfS (sumN (bytesN (s.extract c.1.toNat c.2.2.toNat)))
set_option maxRecDepth 100000 in
theorem holds_any (s : ByteArray) (a b n : Nat) (w : World) (hs : s.size < 1000000000000) (h1 : a ≤ n) (h2 : n + 4 ≤ s.size) :
    Calls (Go.Proofs.Ytgfgoflhmikalaa.par.loneP HC) 46 #[.agg #[.int .i64 a, .int .i64 b, .int .i64 n], .string s] w fun e w' => e = .returned (.bool (gbE s (a, b, n))) ∧ Below w.heap.size w w' := by
  go_enter (Go.Proofs.Ytgfgoflhmikalaa.par.lfun46 (H := HC)), Try.ntmps46
  go_wp2_with fail
  have hn : (n : Int) < 1000000000000 := by omega
  have i1 : (a : Int) ≤ (n : Int) := by omega
  have i2 : (n : Int) ≤ (s.size : Int) := by omega
  have i3 : (n : Int) + 4 ≤ (s.size : Int) := by omega
  have i4 : (n : Int) ≤ (n : Int) + 4 := by omega
  have i5 : (0 : Int) ≤ (n : Int) := by omega
  have i6 : (0 : Int) ≤ (a : Int) := by omega
  have i7 : (0 : Int) ≤ (n : Int) + 4 := by omega
  have hM : ((s.extract a n).size : Nat) ≤ maxLen := by unfold maxLen; simp; omega
  have hS := moreN_lt (bytesN (s.extract a n)) (c := 0) (by omega) (bytesN_lt _)
  change sumN (bytesN (s.extract a n)) < _ at hS
  have HG : Hid (gbE s (a, b, n) = (s.extract n ((n : Int) + 4).toNat == halfS (sumN (bytesN (s.extract a n))))) := Lib.hid rfl
  generalize hX : sumN (bytesN (s.extract a n)) = X at *
  have HX := Lib.hid hX
  clear hX
  generalize hW : w.alloc (.cells #[.int .i64 a, .int .i64 b, .int .i64 n] 65) = W
  have c0 : W.cell? ⟨w.heap.size, 0, none⟩ = some (.int .i64 a) := by rw [← hW]; simp
  have c1 : W.cell? ⟨w.heap.size, 1, none⟩ = some (.int .i64 b) := by rw [← hW]; simp
  have c2 : W.cell? ⟨w.heap.size, 2, none⟩ = some (.int .i64 n) := by rw [← hW]; simp
  have hbW : Below w.heap.size w W := by rw [← hW]; (repeat (first | with_reducible exact Below.refl _ _ | with_reducible refine kp_alloc ?_ _ | with_reducible refine kp_drew ?_ | with_reducible refine kp_set ?_ (by first | omega | (simp; done) | (simp; omega)) _ | with_reducible refine kp_tr ?_ (by with_reducible assumption)))
  have hWs := hbW.size
  clear hW
  go_region_held3 (fun w' => w'.cell? ⟨w.heap.size, 0, none⟩ = some (.int .i64 (a : Int)) ∧ w'.cell? ⟨w.heap.size, 1, none⟩ = some (.int .i64 (b : Int)) ∧ w'.cell? ⟨w.heap.size, 2, none⟩ = some (.int .i64 (n : Int)))
    (first | go_keep | (refine s3_tr (W := W) ?_ ⟨c0, c1, c2⟩; (repeat (first | with_reducible exact Below.refl _ _ | with_reducible refine kp_alloc ?_ _ | with_reducible refine kp_drew ?_ | with_reducible refine kp_set ?_ (by first | omega | (simp; done) | (simp; omega)) _ | with_reducible refine kp_tr ?_ (by with_reducible assumption)))))
    (first
      | (go_at_call 32; refine (next_any _ _ _ _ (by omega) hn).mono ?_; rintro e w1 ⟨rfl, k1⟩)
      | (go_at_call 27; refine (sum_any _ _ hM).mono ?_; rintro e w2 ⟨rfl, k2⟩; rw [HX.out])
      | (go_at_call 26; refine (putHalf_any _ _ hS).mono ?_; rintro e w3 ⟨rfl, k3⟩))
  go_wp2_with fail
  go_ret
  exact ⟨by rw [HG.out, beq_toListBytes]; rfl, kp_tr (kp_tr (kp_tr (kp_drew hbW) k1) k2) k3⟩
theorem cut_nat {s : ByteArray} {c : Int × Int × Int} (h0 : 0 ≤ c.1) (h1 : 0 ≤ c.2.1) (h2 : c.1 ≤ c.2.2) (h3 : c.2.2 + 4 ≤ (s.size : Int)) : ∃ a b n : Nat, c = ((a : Int), (b : Int), (n : Int)) ∧ a ≤ n ∧ n + 4 ≤ s.size := by
  obtain ⟨x, y, z⟩ := c
  dsimp only at *
  obtain ⟨a, rfl⟩ := Int.eq_ofNat_of_zero_le h0
  obtain ⟨b, rfl⟩ := Int.eq_ofNat_of_zero_le h1
  obtain ⟨n, rfl⟩ := Int.eq_ofNat_of_zero_le (show 0 ≤ z by omega)
  exact ⟨a, b, n, rfl, by omega, by omega⟩
end Go.Proofs.Ytgfgoflhmikalaa.fr

namespace Go.Proofs.Ytgfgoflhmikalaa.fr
open Go.RowKit Go.Proofs.Ytgfgoflhmikalaa.cm Go.Proofs.Ytgfgoflhmikalaa.cw
set_option linter.unusedVariables false
set_option linter.unusedSimpArgs false
variable {HC : Code}
attribute [local irreducible] Go.Proofs.Ytgfgoflhmikalaa.par.loneP
/-- What the digits from some place on say: the number, how many digits, an error (1 argument, 2 short, 3 form). -/
inductive VT where
  | ok (v n : Nat)
  | short
  | form
def vt (n v : Nat) : List Nat → VT
  | [] => .short
  | b :: t => if (n = 9 ∧ 2 ≤ b) ∨ (0 < n ∧ b = 0) then .form else if b < 128 then .ok (v + b * 128 ^ n) (n + 1) else vt (n + 1) (v + (b - 128) * 128 ^ n) t
/-- What Take hands back. -/
def takeV (at_ : Nat) : VT → Value
  | .ok v n => .tuple #[.int .u64 (v : Int), .int .i64 ((at_ + n : Nat) : Int), .int .i64 0]
  | .short => .tuple #[.int .u64 0, .int .i64 0, .int .i64 2]
  | .form => .tuple #[.int .u64 0, .int .i64 0, .int .i64 3]
theorem bytesN_drop {s : ByteArray} {p : Nat} (h : p < s.size) : (bytesN s).drop p = s[p].toNat :: (bytesN s).drop (p + 1) := by
  have hl : p < (bytesN s).length := by rw [bytesN_len]; exact h
  rw [List.drop_eq_getElem_cons hl]
  congr 1
  simp [bytesN]
  rfl
theorem or_add {v d k : Nat} (hk : k ≤ 9) (hv : v < 128 ^ k) (hd : d * 128 ^ k < 18446744073709551616) : bits .or .u64 (v : Int) (IntKind.u64.wrap ((d : Int) * 2 ^ (7 * k))) = ((v + d * 128 ^ k : Nat) : Int) := by
  have e : (128 : Nat) ^ k = 2 ^ (7 * k) := by rw [Nat.pow_mul]
  have e2 : (d : Int) * 2 ^ (7 * k) = ((d * 128 ^ k : Nat) : Int) := by rw [e]; push_cast; rfl
  rw [e2, wr_u64 _ (by omega)]
  rw [e] at hv hd ⊢
  have hv2 : v < 18446744073709551616 := Nat.lt_of_lt_of_le hv (Nat.le_trans (Nat.pow_le_pow_right (by omega) (show 7 * k ≤ 63 by omega)) (by decide))
  rw [u64_or_nat v _ hv2 hd]
  have := Nat.two_pow_add_eq_or_of_lt hv d
  rw [Nat.mul_comm] at this
  rw [Nat.or_comm, ← this, Nat.add_comm]
set_option maxRecDepth 100000 in
set_option maxHeartbeats 4000000 in
theorem take_any (s : ByteArray) (at_ : Nat) (w : World) (hs : s.size < 1000000000000) (ha : at_ ≤ s.size) :
    Calls (Go.Proofs.Ytgfgoflhmikalaa.par.loneP HC) 42 #[.string s, .int .i64 at_] w fun e w' => e = .returned (takeV at_ (vt 0 0 ((bytesN s).drop at_))) ∧ w = w' := by
  have ia : ¬ (at_ : Int) < 0 := by omega
  go_enter (Go.Proofs.Ytgfgoflhmikalaa.par.lfun42 (H := HC)), Try.ntmps42
  go_step
  go_wp2_with fail
  apply wp_scope_straight
  go_step
  go_wp2_with fail
  apply wp_label
  go_wp2_with fail
  generalize hR : vt 0 0 ((bytesN s).drop at_) = R
  have hR0 := hR
  go_loopw [4, 5, 7] (fun y p n wr => ∃ v k : Nat, k ≤ 9 ∧ at_ + k ≤ s.size ∧ v < 128 ^ k ∧ y = .int .u64 v ∧ p = .int .i64 ((at_ + k : Nat) : Int) ∧ n = .int .i64 k ∧ Hid (vt k v ((bytesN s).drop (at_ + k)) = R) ∧ wr = w) (fun _ _ n _ => 10 - (intOf n).toNat)
  case atStart => exact ⟨0, 0, by omega, by omega, by omega, rfl, rfl, rfl, Lib.hid hR, rfl⟩
  case round =>
    obtain ⟨v, k, hk, hp, hv, rfl, rfl, rfl, hr, rfl⟩ := hrel
    clear hR
    generalize hq : at_ + k = p at *
    by_cases hlp : p < s.size
    · have hd := bytesN_drop hlp
      have hb : s[p].toNat < 256 := s[p].toNat_lt
      generalize hB : s[p].toNat = b at *
      have i1 : (p : Int) < (s.size : Int) := by omega
      have i2 : ¬ (s.size : Int) ≤ (p : Int) := by omega
      have HV : R = if (k = 9 ∧ 2 ≤ b) ∨ (0 < k ∧ b = 0) then .form else if b < 128 then .ok (v + b * 128 ^ k) (k + 1) else vt (k + 1) (v + (b - 128) * 128 ^ k) ((bytesN s).drop (p + 1)) := by
        rw [← hr.out, hd, vt]
      have HQ : Hid (R = vt 0 0 ((bytesN s).drop at_)) := Lib.hid hR0.symm
      clear hd hr
      by_cases hF : (k = 9 ∧ 2 ≤ b) ∨ (0 < k ∧ b = 0)
      · rw [if_pos hF] at HV
        have HV := Lib.hid HV
        go_wp2_with fail
        all_goals (try simp only [beq_iff_eq, beq_eq_false_iff_ne, ne_eq] at *)
        all_goals first
          | (exfalso; omega)
          | (((try simp only [Exit.inBlock, Exit.then, Exit.noGoto_ret, Exit.noGoto_normal, Exit.noGoto_exit]); refine bodyPost_ret (results_tmp3 rfl _ _ _) rfl ?_); rw [← HQ.out, HV.out]; exact ⟨rfl, rfl⟩)
      · rw [if_neg hF] at HV
        by_cases hb2 : b < 128
        · rw [if_pos hb2] at HV
          have hmul : b * 128 ^ k < 18446744073709551616 := by
            rcases Nat.lt_or_ge k 9 with h | h
            · exact Nat.lt_of_lt_of_le (Nat.mul_lt_mul_of_lt_of_le hb2 (Nat.pow_le_pow_right (by omega) (show k ≤ 8 by omega)) (Nat.two_pow_pos 56)) (by decide)
            · obtain rfl : k = 9 := by omega
              have : b < 2 := by omega
              omega
          have HO := Lib.hid (or_add (d := b) hk hv hmul)
          have HO9 : k = 9 → bits .or .u64 (v : Int) ((b : Int) * 9223372036854775808) = ((v + b * 128 ^ k : Nat) : Int) := fun h => by
            subst h
            rw [← HO.out, wr_u64 _ (by omega)]
            rfl
          replace HO9 := Lib.hid HO9
          replace HV := Lib.hid HV
          go_wp2_with fail
          all_goals (try simp only [beq_iff_eq, beq_eq_false_iff_ne, ne_eq] at *)
          all_goals first
            | (exfalso; omega)
            | (((try simp only [Exit.inBlock, Exit.then, Exit.noGoto_ret, Exit.noGoto_normal, Exit.noGoto_exit]); refine bodyPost_ret (results_tmp3 rfl _ _ _) rfl ?_); rw [← HQ.out, HV.out]; refine ⟨?_, rfl⟩; show _ = Ending.returned (.tuple #[.int .u64 ((v + b * 128 ^ k : Nat) : Int), .int .i64 ((at_ + (k + 1) : Nat) : Int), .int .i64 0]); rw [show ((at_ + (k + 1) : Nat) : Int) = (p : Int) + 1 from by omega]; first | (rw [← HO.out]; rfl) | (rw [← HO9.out (by omega)]; rfl))
        · rw [if_neg hb2] at HV
          have hk8 : k ≤ 8 := by omega
          have hd128 : b - 128 < 128 := by omega
          have hmul : (b - 128) * 128 ^ k < 18446744073709551616 := Nat.lt_of_lt_of_le (Nat.mul_lt_mul_of_lt_of_le hd128 (Nat.pow_le_pow_right (by omega) hk8) (Nat.two_pow_pos 56)) (by decide)
          have HO : Hid (bits .or .u64 (v : Int) (IntKind.u64.wrap (((b : Int) - 128) * 2 ^ (7 * k))) = ((v + (b - 128) * 128 ^ k : Nat) : Int)) := Lib.hid (by
            have := or_add (d := b - 128) hk hv hmul
            rw [show ((b - 128 : Nat) : Int) = (b : Int) - 128 from by omega] at this
            exact this)
          have hnew : v + (b - 128) * 128 ^ k < 128 ^ (k + 1) := by
            have h1 : (b - 128) * 128 ^ k ≤ 127 * 128 ^ k := Nat.mul_le_mul_right _ (by omega)
            rw [Nat.pow_succ]
            omega
          replace HV := Lib.hid HV
          have HN := Lib.hid hnew
          clear hnew hmul
          go_wp2_with fail
          all_goals (try simp only [beq_iff_eq, beq_eq_false_iff_ne, ne_eq] at *)
          all_goals first
            | (exfalso; omega)
            | exact ⟨⟨v + (b - 128) * 128 ^ k, k + 1, by omega, by omega, HN.out, by rw [HO.out], by rw [show at_ + (k + 1) = p + 1 from by omega]; go_num, by go_num, Lib.hid (by rw [show at_ + (k + 1) = p + 1 from by omega]; exact HV.out.symm), trivial⟩, by simp [intOf]; omega⟩
    · obtain rfl : p = s.size := by omega
      have hd : (bytesN s).drop s.size = [] := List.drop_eq_nil_of_le (by rw [bytesN_len]; omega)
      have HR : R = .short := by rw [← hr.out, hd]; rfl
      go_wp2_with fail
      ((try simp only [Exit.inBlock, Exit.then, Exit.noGoto_ret, Exit.noGoto_normal, Exit.noGoto_exit]); refine bodyPost_ret (results_tmp3 rfl _ _ _) rfl ?_)
      rw [hR0, HR]
      exact ⟨rfl, rfl⟩
end Go.Proofs.Ytgfgoflhmikalaa.fr
