/- objects.walk: a range over a throwing iterator, recovered: specification and contracts. No conditions. -/
import Derived.Test.YtpgjploaliefdaaGreatG01
import Derived.Test.YtpgjploaliefdaaGreatRt
import Derived.Shelf.Abstract
import Derived.WalkKit
import Derived.OwnWalkIn
import Derived.TacticsInMore
import Derived.LoopNIn
import Derived.LoopIn
import Derived.Maps.AppendAt
namespace Go.Proofs.YtpgjploaliefdaaGreat.ob
open Go.RowKit Go.Shelf hd rt
set_option linter.unusedVariables false
set_option linter.unusedSimpArgs false
attribute [local go_sem] Oper.semAt_some
inductive Res where
 | ok (l : List Ob) (k : Nat)
 | err (e : Int) (k : Nat)
def slotsB (o : Ob) (zs : List Int) (k : Nat) : Bool := (List.range k).all fun i => slotOk o i (zs.getD (o.pos.toNat + 1 + i) 0)
theorem slotsB_iff (o : Ob) (zs : List Int) (k : Nat) : slotsB o zs k = true ↔ slotsOk o zs k := by simp [slotsB, slotsOk]
def walkF (bg : Nat → Nat → Int → Option (Ob × Nat)) (zs : List Int) (len : Nat) : Nat → Nat → Nat → List Ob → Res
 | 0, k, _, _ => .err 9 k
 | f + 1, k, pos, acc =>
  if pos < len then
   match bg k pos (zs.getD pos 0) with
   | none => .err 3 k
   | some (o, k') => if len < pos + 1 + o.s.toNat then .err 2 k' else if slotsB o zs o.s.toNat then walkF bg zs len f k' (pos + 1 + o.s.toNat) (acc ++ [o]) else .err 3 k'
  else .ok acc k
theorem walkF_step {bg : Nat → Nat → Int → Option (Ob × Nat)} {zs : List Int} {len f k pos : Nat} {acc : List Ob} (h : pos < len) : walkF bg zs len (f + 1) k pos acc = match bg k pos (zs.getD pos 0) with
   | none => .err 3 k
   | some (o, k') => if len < pos + 1 + o.s.toNat then .err 2 k' else if slotsB o zs o.s.toNat then walkF bg zs len f k' (pos + 1 + o.s.toNat) (acc ++ [o]) else .err 3 k' := by
 show (if pos < len then _ else _) = _
 rw [if_pos h]
theorem walkF_end {bg : Nat → Nat → Int → Option (Ob × Nat)} {zs : List Int} {len f k pos : Nat} {acc : List Ob} (h : ¬ pos < len) : walkF bg zs len (f + 1) k pos acc = .ok acc k := by
 show (if pos < len then _ else _) = _
 rw [if_neg h]
def WordsAt (W : World) (b off len : Nat) (zs : List Int) : Prop := ∀ i, i < len → W.cell? ⟨b, off + i, none⟩ = some (.int .u64 (zs.getD i 0))
theorem WordsAt.block {A B : World} {b off len : Nat} {zs : List Int} (h : WordsAt A b off len zs) (hb : B.heap[b]? = A.heap[b]?) : WordsAt B b off len zs := fun i hi => by
 rw [← h i hi]; simp [World.cell?, hb]
theorem WordsAt.at {A : World} {b off len : Nat} {zs : List Int} (h : WordsAt A b off len zs) (i : Nat) (hi : i < len) : A.cell? ⟨b, off + i, none⟩ = some (.int .u64 (zs.getD i 0)) := h i hi
theorem WordsAt.lt {A : World} {b off len : Nat} {zs : List Int} (h : WordsAt A b off len zs) (h0 : 0 < len) : b < A.heap.size := World.block_lt_of_cell? _ _ (h 0 h0)
theorem WordsAt.none (W : World) (b off : Nat) (zs : List Int) : WordsAt W b off 0 zs := fun i hi => absurd hi (Nat.not_lt_zero _)
attribute [irreducible] WordsAt
structure BeginOk (b off len cap : Nat) (zs : List Int) (gv : Value) (St : Nat → World → Prop) (bg : Nat → Nat → Int → Option (Ob × Nat)) (row : Option Nat) : Prop where
 grown : ∀ k A B, St k A → A.grownBy B none → St k B
 small : ∀ k pos x o k', bg k pos x = some (o, k') → o.pos = (pos : Int) ∧ 0 ≤ o.s ∧ o.s ≤ 255
 calls : ∀ k pos W, pos < len → St k W → WordsAt W b off len zs → Calls Tryz.prog 136 #[.slice (some ⟨b, off, none⟩) len cap, .int .i64 (pos : Int), gv] W fun e W' => W.grownBy W' row ∧
  ((∃ o k', bg k pos (zs.getD pos 0) = some (o, k') ∧ e = .returned (oV o) ∧ St k' W') ∨ (bg k pos (zs.getD pos 0) = none ∧ e = .panicked [{ v := wrongV 3, recovered := false }] ∧ St k W'))
theorem below_grown {A B : World} (h : Below A.heap.size A B) (row : Option Nat) : A.grownBy B row := ⟨h.os, h.tape, h.output, h.size, fun k hk _ => h.block k hk⟩
structure EachAt (b off len cap : Nat) (zs : List Int) (gv sv : Value) (St : Nat → World → Prop) (Bw Bg k : Nat) (W : World) : Prop where
 words : WordsAt W b off len zs
 st : St k W
 box : Blk W Bw #[sv] 29
 gone : Blk W Bg #[gv] 193
theorem EachAt.next {b off len cap : Nat} {zs : List Int} {gv sv : Value} {St : Nat → World → Prop} {Bw Bg k k' : Nat} {W W' : World} {row : Option Nat} (h : EachAt b off len cap zs gv sv St Bw Bg k W) (hg : W.grownBy W' row) (hrow : ∀ r, row = some r → r ≠ Bw ∧ r ≠ Bg ∧ r ≠ b) (hst : St k' W') :
  EachAt b off len cap zs gv sv St Bw Bg k' W' := by
 refine ⟨?_, hst, ?_, ?_⟩
 ·rcases Nat.eq_zero_or_pos len with h0 | h0
  ·subst h0; exact WordsAt.none _ _ _ _
  ·exact h.words.block (hg.block b (h.words.lt h0) (fun e => (hrow b e.symm).2.2 rfl))
 ·exact Blk.of ((hg.block Bw h.box.lt (fun e => (hrow Bw e.symm).1 rfl)).trans h.box.raw)
 ·exact Blk.of ((hg.block Bg h.gone.lt (fun e => (hrow Bg e.symm).2.1 rfl)).trans h.gone.raw)
theorem EachAt.kept {b off len cap : Nat} {zs : List Int} {gv sv : Value} {St : Nat → World → Prop} {Bw Bg k n₀ L : Nat} {A W W' : World} (h : EachAt b off len cap zs gv sv St Bw Bg k W) (hk : KeptA n₀ L A W W') (hBw : Bw < n₀ ∧ Bw ≠ L) (hBg : Bg < n₀ ∧ Bg ≠ L) (hb : 0 < len → b < n₀ ∧ b ≠ L) (hst : St k W') :
  EachAt b off len cap zs gv sv St Bw Bg k W' := by
 refine ⟨?_, hst, ?_, ?_⟩
 ·rcases Nat.eq_zero_or_pos len with h0 | h0
  ·subst h0; exact WordsAt.none _ _ _ _
  ·exact h.words.block (hk.2 b (h.words.lt h0) (.inl (hb h0)))
 ·exact Blk.of ((hk.2 Bw h.box.lt (.inl hBw)).trans h.box.raw)
 ·exact Blk.of ((hk.2 Bg h.gone.lt (.inl hBg)).trans h.gone.raw)
theorem AllocG {A B : World} {row : Option Nat} (h : A.grownBy B row) (o : Obj) : A.grownBy (B.alloc o) row :=
 ⟨h.os, h.tape, h.output, by have := h.size; simp; omega, fun k hk hne => (Below.heap_alloc B o k (Nat.lt_of_lt_of_le hk h.size)).trans (h.block k hk hne)⟩
set_option maxRecDepth 100000 in
set_option maxHeartbeats 4000000 in
theorem each1_throws (n : Nat) (hn : 1 ≤ n) (b off len cap : Nat) (ad : Option Addr) (zs : List Int) (gv : Value) (St : Nat → World → Prop) (bg : Nat → Nat → Int → Option (Ob × Nat)) (row : Option Nat) (hok : BeginOk b off len cap zs gv St bg row)
  (had : 0 < len → ad = some ⟨b, off, none⟩) (hlc : len ≤ cap) (hcap : cap < 9223372036854775808) (hz : ∀ i, 0 ≤ zs.getD i 0 ∧ zs.getD i 0 < 18446744073709551616) (hS : ∀ S : Nat, S ≤ 255 → len + 1 + S < 9223372036854775808)
  (w0 : World) (L Bw Bg : Nat) (hBw : Bw < w0.heap.size ∧ Bw ≠ L) (hBg : Bg < w0.heap.size ∧ Bg ≠ L) (hb : 0 < len → b < w0.heap.size ∧ b ≠ L) (hrow : ∀ r, row = some r → r ≠ Bw ∧ r ≠ Bg ∧ r ≠ b)
  (hStK : ∀ k A W1 W', w0.heap.size ≤ W1.heap.size → St k W1 → KeptA w0.heap.size L A W1 W' → St k W') (h0 : EachAt b off len cap zs gv (.slice ad len cap) St Bw Bg 0 w0) :
  SeqThrows Fence.wide n Tryz.prog 135 #[.pointer (some ⟨Bw, 0, none⟩), .pointer (some ⟨Bg, 0, none⟩)] (fun o : Ob => #[oV o]) L
   (fun xs W => ∃ k, walkF bg zs len (len + 1) 0 0 [] = .ok xs k ∧ St k W) (fun chain W => ∃ e k, walkF bg zs len (len + 1) 0 0 [] = .err e k ∧ chain = [{ v := wrongV e, recovered := false }] ∧ St k W) row len w0 := by
 intro l J W hW hJ hY hJ0
 have hfn := Tryz.func135
 refine callsIn_of_wp Tryz.func135 rfl trivial ?_ rfl
 simp only [Tryz.ntmps135, List.size_toArray, List.length_cons, List.length_nil, Nat.reduceAdd, Nat.reduceSub, Array.replicate_succ, Array.replicate_zero, List.push_toArray, List.append_toArray, List.nil_append, List.cons_append]
 have hE0 : EachAt b off len cap zs gv (.slice ad len cap) St Bw Bg 0 W := by
  refine ⟨?_, hok.grown _ _ _ h0.st (below_grown hW none), h0.box.tr hW, h0.gone.tr hW⟩
  rcases Nat.eq_zero_or_pos len with h | h
  ·subst h; exact WordsAt.none _ _ _ _
  ·exact h0.words.block (hW.block b (hb h).1)
 gi_wp2
 gi_loopw [4] (fun i wr => ∃ (k pos f : Nat) (acc : List Ob), i = .int .i64 pos ∧ pos ≤ len ∧ acc.length ≤ pos ∧ len - pos < f ∧ Hid (walkF bg zs len (len + 1) 0 0 [] = walkF bg zs len f k pos acc) ∧ J acc wr ∧ W.heap.size ≤ wr.heap.size ∧ EachAt b off len cap zs gv (.slice ad len cap) St Bw Bg k wr) (fun i _ => len - (intOf i).toNat)
 case atStart => exact ⟨0, 0, len + 1, [], rfl, by omega, Nat.le_refl _, by omega, rfl, hJ0, Nat.le_refl _, hE0⟩
 case round =>
  obtain ⟨k, pos, f, acc, rfl, hpl, hal, hf, hres, hJw, hsz, hE⟩ := hrel
  obtain ⟨lw, cw, fw⟩ := hE.box.get
  have cw0 := cw 0
  obtain ⟨lg, cg, fg⟩ := hE.gone.get
  have cg0 := cg 0
  clear hE0
  by_cases hlt : pos < len
  ·obtain rfl := had (by omega)
   obtain ⟨f, rfl⟩ : ∃ f', f = f' + 1 := ⟨f - 1, by omega⟩
   have hres2 := Lib.hid (walkF_step (bg := bg) (zs := zs) (f := f) (k := k) (acc := acc) hlt)
   gi_wp2_with fail
   refine ⟨trivial, (callsIn_wide.2 (hok.calls k pos wr hlt hE.st hE.words)).mono ?_⟩
   rintro e w2 ⟨hg2, ⟨o, k2, hbg, rfl, hst2⟩ | ⟨hbg, rfl, hst2⟩⟩
   ·obtain ⟨hop, ho0, ho255⟩ := hok.small _ _ _ _ _ hbg
    obtain ⟨p0, s, p, g, t⟩ := o
    dsimp only at hop ho0 ho255
    subst hop
    obtain ⟨S, rfl⟩ := Int.eq_ofNat_of_zero_le ho0
    have hE2 := hE.next hg2 hrow hst2
    have hE2a := hE2.next (World.grownBy_alloc w2 (.cells #[.int .i64 pos, .int .i64 S, .int .i64 p, .bool g, .int .u64 t] 58) none) (fun r e => by cases e) (hok.grown _ _ _ hE2.st (World.grownBy_alloc w2 _ none))
    have hg2a := AllocG hg2 (.cells #[.int .i64 pos, .int .i64 S, .int .i64 p, .bool g, .int .u64 t] 58)
    have hBo : Blk (w2.alloc (.cells #[.int .i64 pos, .int .i64 S, .int .i64 p, .bool g, .int .u64 t] 58)) w2.heap.size #[.int .i64 pos, .int .i64 S, .int .i64 p, .bool g, .int .u64 t] 58 := Blk.new _ _ _
    clear lw cw fw cw0 lg cg fg cg0 hE
    obtain ⟨lw, cw, fw⟩ := hE2a.box.get
    have cw0 := cw 0
    unfold oV
    gi_wp2_with fail
    refine ⟨trivial, (callsIn_wide.2 (hold_any b off len cap pos S p t g zs _ hlt hlc hcap (by omega) (fun i hi => hE2a.words.at i hi) hz)).mono ?_⟩
    rintro e w3 ⟨hp3, k3⟩
    have hg3 : wr.grownBy w3 row := hg2a.trans (below_grown k3 row)
    have hE3 := hE2a.next (below_grown k3 none) (fun r e => by cases e) (hok.grown _ _ _ hE2a.st (below_grown k3 none))
    have hBo3 := hBo.tr k3
    rcases hp3 with ⟨hp3, rfl⟩ | ⟨hp3, hso, rfl⟩ | ⟨hp3, hso, rfl⟩
    ·gi_wp2_with fail
     exact ⟨rfl, .inr ⟨_, acc, rfl, ⟨2, k2, by rw [hres.out, hres2.out, hbg]; simp [hp3], rfl, hE3.st⟩, hJ _ _ _ hJw hg3⟩⟩
    ·clear lw cw fw cw0
     have hso2 := Lib.hid ((slotsB_iff _ _ _).2 hso)
     have hres3 : Hid (walkF bg zs len (f + 1) k pos acc = walkF bg zs len f k2 (pos + 1 + S) (acc ++ [⟨pos, S, p, g, t⟩])) := by
      show _ = _
      rw [hres2.out, hbg]
      have := hso2.out
      simp only [Int.toNat_natCast]
      rw [if_neg (by omega), if_pos this]
     clear hso
     obtain ⟨lo, co, fo⟩ := hBo3.get
     obtain ⟨fn, tmps, assign, body, hy, hR⟩ := hY acc ⟨pos, S, p, g, t⟩ wr w3 hJw (by omega) hsz hg3
     unfold oV at hy
     gi_wp2_with fail
     refine hR.mono ?_
     rintro e w4 ⟨rfl, hJ4, hk4⟩
     have hBo4 : Blk w4 w2.heap.size #[.int .i64 pos, .int .i64 S, .int .i64 p, .bool g, .int .u64 t] 58 := Blk.of ((hk4.2 _ lo (.inr (by exact hg2.size))).trans hBo3.raw)
     have hE4 := hE3.kept hk4 hBw hBg hb (hStK _ _ _ _ (Nat.le_trans hW.size (Nat.le_trans hsz hg3.size)) hE3.st hk4)
     have hsz4 : W.heap.size ≤ w4.heap.size := Nat.le_trans hsz (Nat.le_trans hg3.size hk4.1)
     clear lo co fo
     obtain ⟨lo, co, fo⟩ := hBo4.get
     have co1 := co 1
     gi_wp2_with fail
     exact ⟨⟨k2, pos + 1 + S, f, _, by go_num, by omega, by simp; omega, by omega, hres.out.trans hres3.out, hJ4, hsz4, hE4⟩, by simp [intOf]; omega⟩
    ·have hso2 := Lib.hid (fun q => hso ((slotsB_iff _ _ _).1 q))
     clear hso
     gi_wp2_with fail
     exact ⟨rfl, .inr ⟨_, acc, rfl, ⟨3, k2, by rw [hres.out, hres2.out, hbg]; have := hso2.out; simp only [Int.toNat_natCast]; rw [if_neg (by omega), if_neg this], rfl, hE3.st⟩, hJ _ _ _ hJw hg3⟩⟩
   ·gi_wp2_with fail
    exact ⟨rfl, .inr ⟨_, acc, rfl, ⟨3, k, by rw [hres.out, hres2.out, hbg], rfl, hst2⟩, hJ _ _ _ hJw hg2⟩⟩
  ·obtain ⟨f, rfl⟩ : ∃ f', f = f' + 1 := ⟨f - 1, by omega⟩
   have hres2 := Lib.hid (walkF_end (bg := bg) (zs := zs) (f := f) (k := k) (acc := acc) hlt)
   obtain rfl : pos = len := by omega
   gi_wp2_with fail
   go_end0
   exact .inl ⟨⟨_, rfl⟩, acc, ⟨k, by rw [hres.out, hres2.out], hE.st⟩, hJw⟩
end Go.Proofs.YtpgjploaliefdaaGreat.ob
