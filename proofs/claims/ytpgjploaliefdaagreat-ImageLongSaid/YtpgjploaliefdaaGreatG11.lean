/- Contracts of layer 3's functions (crc), second part: More, Sum, Combine. No conditions. -/
import Derived.Test.YtpgjploaliefdaaGreatCw
import Derived.Test.YtpgjploaliefdaaGreatCm
import Derived.Laws.BytesArg
import Derived.Laws.IdiomStrings
import Derived.Laws.AppendOwn
import Derived.Maps.AppendAt
import Derived.Laws.OwnMore
import Derived.Shelf.Strings.BuilderF
import Derived.Shelf.Strconv.Clone
namespace Go.Proofs.YtpgjploaliefdaaGreat.cw
open Go.RowKit Go.Proofs.YtpgjploaliefdaaGreat.cm
set_option linter.unusedVariables false
set_option linter.unusedSimpArgs false
def takerZ : Array Value := #[.int .u32 0, .int .i32 0, .int .u32 0] ++ Array.replicate 256 (.int .u32 0)
theorem zero_taker (w : World) : Sem.run Tryz.prog (zeroValue 186) w = .ok (.agg takerZ) w := by kernel_rfl
theorem fresh_takerZ : Fresh takerZ := ⟨by kernel_rfl, by kernel_rfl, by kernel_rfl⟩
attribute [irreducible] takerZ
def bytesN (s : ByteArray) : List Nat := s.data.toList.map UInt8.toNat
theorem bytesN_len (s : ByteArray) : (bytesN s).length = s.size := by simp [bytesN]
theorem bytesN_lt (s : ByteArray) : ∀ b ∈ bytesN s, b < 256 := by
  intro b hb
  obtain ⟨x, _, rfl⟩ := List.mem_map.1 hb
  exact x.toNat_lt
theorem bytesN_snoc (s : ByteArray) (k : Nat) (h : k < s.size) : (bytesN s).take (k + 1) = (bytesN s).take k ++ [s[k].toNat] := by
  have hl : k < (bytesN s).length := by rw [bytesN_len]; exact h
  rw [List.take_succ_eq_append_getElem hl]
  congr 2
  simp [bytesN]; rfl
def MorePost (v : Int) (w : World) (e : Ending) (w' : World) : Prop := e = .returned (.int .u32 v) ∧ Below w.heap.size w w'
set_option maxRecDepth 100000 in
theorem more_any (c : Nat) (s : ByteArray) (w : World) (h : c < 4294967296) (hs : s.size ≤ maxLen) :
    Calls Tryz.prog 104 #[.int .u32 (c : Int), .string s] w (MorePost ((moreN c (bytesN s) : Nat) : Int) w) := by
  unfold maxLen at hs
  have hz := zero_taker 
  have hx := u32_xor_nat c 4294967295 h (by omega)
  rw [show ((4294967295 : Nat) : Int) = 4294967295 from rfl] at hx
  have hct : c ^^^ 4294967295 = c ^^^ top32 := by unfold top32; rfl
  rw [hct] at hx
  have hc0 : c ^^^ top32 < 4294967296 := xor32_lt h (by unfold top32; omega)
  have HM : Hid (moreN c (bytesN s) = feedN (c ^^^ top32) (bytesN s) ^^^ top32) := rfl
  generalize hg : c ^^^ top32 = c0 at hx hc0 HM
  clear hg hct
  have hend := u32_xor_nat (feedN c0 (bytesN s)) 4294967295 (feedN_lt _ hc0 (bytesN_lt s)) (by omega)
  rw [show ((4294967295 : Nat) : Int) = 4294967295 from rfl] at hend
  have HE := Lib.hid hend
  clear hend
  go_enter Tryz.func104, Tryz.ntmps104
  go_wp2_with fail
  go_loopw [0, 12] (fun v i wr => ∃ k : Nat, k ≤ s.size ∧ i = .int .i64 k ∧ v = .int .u32 ((feedN c0 ((bytesN s).take k) : Nat) : Int) ∧ Below w.heap.size w wr ∧ ∃ cs : Array Value, Blk wr w.heap.size cs 186 ∧ (Fresh cs ∨ Laid cs)) (fun _ i _ => s.size - (intOf i).toNat)
  case atStart => exact ⟨0, Nat.zero_le _, rfl, rfl, by (repeat (first | with_reducible exact Below.refl _ _ | with_reducible refine kp_alloc ?_ _ | with_reducible refine kp_drew ?_ | with_reducible refine kp_set ?_ (by first | omega | (simp; done) | (simp; omega)) _ | with_reducible refine kp_tr ?_ (by with_reducible assumption))), takerZ, Blk.new _ _ _, .inl fresh_takerZ⟩
  case round =>
    obtain ⟨k, hk, rfl, rfl, hb, cs, hB, hF⟩ := hrel
    have hfl : feedN c0 ((bytesN s).take k) < 4294967296 := feedN_lt _ hc0 (fun b hb => bytesN_lt s b (List.mem_of_mem_take hb))
    by_cases hlt : k < s.size
    · have HS : Hid (feedN c0 ((bytesN s).take (k + 1)) = upN (feedN c0 ((bytesN s).take k)) s[k].toNat) := by rw [bytesN_snoc s k hlt]; exact feedN_snoc _ _ _
      generalize hq : feedN c0 ((bytesN s).take k) = q at *
      clear hq
      go_wp2_with fail
      refine (up_any w.heap.size cs q _ _ hB hF hfl s[k].toNat_lt).mono ?_; rintro e w2 ⟨rfl, ho, hp⟩
      have HP := Lib.hid hp
      clear hp
      go_wp2_with fail
      obtain ⟨cs2, hB2, hL⟩ := HP.out
      exact ⟨⟨k + 1, by omega, by go_num, by rw [HS.out], ho.below hb (Nat.le_refl _), cs2, hB2, .inr hL⟩, by simp [intOf]; omega⟩
    · obtain rfl : k = s.size := by omega
      have ht : (bytesN s).take s.size = bytesN s := List.take_of_length_le (by rw [bytesN_len]; omega)
      rw [ht]
      have hE := HE.out
      go_wp2_with fail
      go_ret
      refine ⟨?_, hb⟩
      rw [HM.out]; unfold top32; rfl
theorem sum_any (s : ByteArray) (w : World) (hs : s.size ≤ maxLen) :
    Calls Tryz.prog 86 #[.string s] w (MorePost ((sumN (bytesN s) : Nat) : Int) w) := by
  go_enter Tryz.func86, Tryz.ntmps86
  go_wp2_with fail
  refine (more_any 0 s _ (by omega) hs).mono ?_; rintro e w2 ⟨rfl, hb⟩
  go_wp2_with fail
  go_ret
  exact ⟨rfl, hb⟩
end Go.Proofs.YtpgjploaliefdaaGreat.cw

namespace Go.Proofs.YtpgjploaliefdaaGreat.fr
open Go.RowKit Go.Proofs.YtpgjploaliefdaaGreat.cm Go.Proofs.YtpgjploaliefdaaGreat.cw
set_option linter.unusedVariables false
set_option linter.unusedSimpArgs false
theorem append_any {P : Program} {ops : Array Oper} {rest : List Oper} {o : Oper} {a : Act} {Q : Exit → Act → World → Prop} (w : World) (hw : Region.wanted o (yielded ops a.tmps) = true) (s x : Operand) (t : TypeId)
    (ho : o.op = .call { callee := .builtin .append, args := #[s, x], argTypes := #[t, t] })
    (base : Nat) (e : TypeId) (i : TypeInfo) (z : Value) (size bytes : Nat) (ht : P.underlying t = some (.slice e)) (hi : P.info? e = some i) (hz : i.zero = some z)
    (hsize : i.size = size) (hby : i.bytes = bytes) (hzs : z.cells.size = size) (hsz : 0 < size)
    (v : Value) (n : Nat) (xs : List Value) (hs : a.eval s = v) (hown : w.ownsRow base e size v n xs)
    (u : Value) (m : Nat) (news : List Value) (hx : a.eval x = u) (hsrc : (u = .slice none 0 0 ∧ m = 0 ∧ news = []) ∨ ∃ ad c, u = .slice (some ad) m c ∧ ∀ j y, news[j]? = some y → w.cell? (ad.add j) = some y)
    (hl : news.length = m * size) (h1 : ∀ u ∈ news, u.oneCell' = true)
    (h63 : n + m ≤ maxLen) (hbytes : (n + m) * bytes ≤ 140737488355328) (hbase : base ≤ w.heap.size)
    (h : ∀ v' w', w'.ownsRow base e size v' (n + m) (xs ++ news) → w.grownBy w' v.ownBlock → (v'.ownBlock = v.ownBlock ∨ v'.ownBlock = some w.heap.size) → wpList P ops Q rest (a.put o.dst v') w') : wpList P ops Q (o :: rest) a w := by
  refine wpList_step fun K hK => ?_
  rw [if_pos hw]
  rcases hsrc with ⟨rfl, rfl, rfl⟩ | ⟨ad, c, rfl, hnews⟩
  · have hr := run_append_owned_none (P := P) (w := w) base t o.type e i size ht hi v n xs hown
    unfold Oper.wp execOp
    simp only [ho, resolve, invoke, builtin, Sem.run_bind, Sem.run_pure, Result.andThen_ok, List.map_toArray, List.map_cons, List.map_nil, hs, hx, hr]
    exact hK _ _ (h v w (by simpa using hown) ⟨rfl, rfl, rfl, Nat.le_refl _, fun _ _ _ => rfl⟩ (.inl rfl))
  · obtain ⟨v', w', hr, h2, h3, h4, h5⟩ := run_append_own_at (P := P) w base t o.type e i z size bytes ht hi hz hsize hby hzs hsz v n xs hown ad m c news hl hnews h1 h63 hbytes hbase
    unfold Oper.wp execOp
    simp only [ho, resolve, invoke, builtin, Sem.run_bind, Sem.run_pure, Result.andThen_ok, List.map_toArray, List.map_cons, List.map_nil, hs, hx, hr]
    exact hK _ _ (h v' w' h2 h3 h5)
theorem below_grown {A B : World} (h : Below A.heap.size A B) (row : Option Nat) : A.grownBy B row := ⟨h.os, h.tape, h.output, h.size, fun k hk _ => h.block k hk⟩
/-- Worlds that differ above B alone, or in a block of one's own. -/
theorem grown_below {C : Nat} {w w' : World} {v : Value} {W : World} (hg : w.grownBy w' v.ownBlock) (hb : Below C W w) (hC : C ≤ W.heap.size) (ho : ∀ k, v.ownBlock = some k → C ≤ k) : Below C W w' :=
  ⟨hg.os.trans hb.os, hg.tape.trans hb.tape, hg.output.trans hb.output, Nat.le_trans hb.size hg.size, fun j hj => (hg.block j (by have := hb.size; omega) (fun e => by have := ho _ e.symm; omega)).trans (hb.block j hj)⟩
theorem bel_alloc {C : Nat} {W w : World} (h : Below C W w) (hC : C ≤ W.heap.size) (o : Obj) : Below C W (w.alloc o) :=
  ⟨h.os, h.tape, h.output, by have := h.size; show _ ≤ (w.heap.push _).size; simp; omega, fun j hj => (Below.heap_alloc w o j (by have := h.size; omega)).trans (h.block j hj)⟩
def byteV (x : Nat) : Value := .int .u8 (x : Int)
/-- A slice of bytes of one's own. -/
def OwnB (W : World) (B : Nat) (v : Value) (zs : List Nat) : Prop := W.ownsRow B 5 1 v zs.length (zs.map byteV)
theorem OwnB.nil (W : World) (B : Nat) : OwnB W B (.slice none 0 0) [] := World.ownsRow_nil _ _ _ _
theorem OwnB.tr {W w : World} {B : Nat} {v : Value} {zs : List Nat} (h : OwnB W B v zs) (hb : Below W.heap.size W w) : OwnB w B v zs := by
  refine World.ownsRow.kept h (below_grown hb none) ?_
  rcases hv : v.ownBlock with _ | k
  · exact .inl rfl
  · exact .inr (fun e => by cases e)
theorem OwnB.lift {W : World} {B C : Nat} {v : Value} {zs : List Nat} (h : OwnB W B v zs) (hb : C ≤ B) : OwnB W C v zs := by
  refine ⟨h.1, ?_⟩
  rcases h.2 with h | ⟨g, cap, cur, h1, h2, h3⟩
  · exact .inl h
  · exact .inr ⟨g, cap, cur, h1, by omega, h3⟩
theorem OwnB.block {W : World} {B : Nat} {v : Value} {zs : List Nat} (h : OwnB W B v zs) : ∀ k, v.ownBlock = some k → B ≤ k := by
  intro k hk
  rcases h.2 with ⟨rfl, _⟩ | ⟨g, cap, cur, rfl, h2, _⟩
  · cases hk
  · cases hk
    exact h2
theorem OwnB.str {W : World} {B : Nat} {v : Value} {zs : List Nat} (h : OwnB W B v zs) (hz : 0 < zs.length) :
    (convert 91 9 v).run Tryz.prog W = .ok (.string (strOfNums (zs.map fun b : Nat => (b : Int)))) W := by
  rcases h.2 with ⟨rfl, h1⟩ | ⟨g, cap, cur, rfl, h1, h2, h3, h4, h5, h6⟩
  · omega
  · refine run_convert_bytes_arg (P := Tryz.prog) W 91 5 Tryz.underlying91 Tryz.underlying5 g 0 zs.length cap (zs.map fun b : Nat => (b : Int)) (by simp) (fun i hi => ?_) 9 Tryz.underlying9
    have h7 := World.ownsRow.cells h (g := g) rfl i (byteV (zs.getD i 0)) (by simp [List.getD, List.getElem?_eq_getElem hi])
    have e : (⟨g, 0, none⟩ : Addr).add i = ⟨g, i, none⟩ := by unfold Addr.add; split <;> simp_all
    rw [e] at h7
    rw [Nat.zero_add, h7]
    simp [byteV, List.getD, hi]
theorem info_u8 : (Tryz.prog.info? 5).map (fun i => (i.zero, i.size, i.bytes)) = some (some (.int .u8 0), 1, 1) := by kernel_rfl
theorem app_B {ops : Array Oper} {rest : List Oper} {o : Oper} {a : Act} {Q : Exit → Act → World → Prop} (w : World) (hw : Region.wanted o (yielded ops a.tmps) = true) (s x : Operand)
    (ho : o.op = .call { callee := .builtin .append, args := #[s, x], argTypes := #[91, 91] })
    (B : Nat) (v : Value) (xs : List Nat) (y n c : Nat) (hs : a.eval s = v) (hx : a.eval x = .slice (some ⟨n, 0, none⟩) 1 c) (hown : OwnB w B v xs) (hc : w.cell? ⟨n, 0, none⟩ = some (byteV y)) (hbig : xs.length + 1 < 1000000000000) (hB : B ≤ w.heap.size)
    (h : ∀ v' w', OwnB w' B v' (xs ++ [y]) → w.grownBy w' v.ownBlock → (v'.ownBlock = v.ownBlock ∨ v'.ownBlock = some w.heap.size) → wpList Tryz.prog ops Q rest (a.put o.dst v') w') : wpList Tryz.prog ops Q (o :: rest) a w := by
  obtain ⟨i0, hi, hz0, hz1, hz2⟩ := info_parts info_u8
  refine append_any w hw s x _ ho B 5 i0 (.int .u8 0) 1 1 Tryz.underlying91 hi hz0 hz1 hz2 rfl (by decide) v xs.length (xs.map byteV) hs hown _ 1 [byteV y] hx (.inr ⟨_, _, rfl, fun j z hj => ?_⟩) rfl (fun u hu => ?_) (by unfold maxLen; omega) (by omega) hB ?_
  · rcases j with _ | j
    · cases hj
      exact hc
    · simp at hj
  · obtain rfl := List.mem_singleton.1 hu
    rfl
  · intro v' w' h2 h3 h4
    refine h v' w' ?_ h3 h4
    unfold OwnB
    simpa using h2
end Go.Proofs.YtpgjploaliefdaaGreat.fr

namespace Go.Proofs.YtpgjploaliefdaaGreat.fr
open Go.RowKit Go.Proofs.YtpgjploaliefdaaGreat.cm Go.Proofs.YtpgjploaliefdaaGreat.cw
set_option linter.unusedVariables false
set_option linter.unusedSimpArgs false
/-- A number's bytes, the lowest one first. -/
def leB (n x : Nat) : List Nat := (List.range n).map fun i => x / 256 ^ i % 256
theorem leB_succ (n x : Nat) : leB (n + 1) x = leB n x ++ [x / 256 ^ n % 256] := by simp [leB, List.range_succ]
theorem leB_len (n x : Nat) : (leB n x).length = n := by simp [leB]
theorem leB_4 (x : Nat) : leB 4 x = le4 x := by
  show [x / 256 ^ 0 % 256, x / 256 ^ 1 % 256, x / 256 ^ 2 % 256, x / 256 ^ 3 % 256] = _
  unfold le4
  simp
def strB (l : List Nat) : ByteArray := strOfNums (l.map fun b : Nat => (b : Int))
theorem lay32_any (v : Value) (xs : List Nat) (x B n : Nat) (w : World) (hn : n ≤ 8) (hx : x < 4294967296) (hv : OwnB w B v xs) (hl : xs.length < 1000000) (hB : B ≤ w.heap.size) :
    Calls Tryz.prog 103 #[v, .int .u32 x, .int .i64 n] w fun e w' => ∃ v', e = .returned v' ∧ OwnB w' B v' (xs ++ leB n x) ∧ Below B w w' := by
  go_enter Tryz.func103, Tryz.ntmps103
  go_wp2_with fail
  go_loopw [0, 1, 8] (fun b y i wr => ∃ k : Nat, k ≤ n ∧ i = .int .i64 k ∧ y = .int .u32 ((x / 256 ^ k : Nat) : Int) ∧ Hid (OwnB wr B b (xs ++ leB k x)) ∧ Hid (Below B w wr)) (fun _ _ i _ => n - (intOf i).toNat)
  case atStart => exact ⟨0, Nat.zero_le _, rfl, by simp, Lib.hid (by simpa [leB] using hv), Lib.hid (Below.refl _ _)⟩
  case round =>
    obtain ⟨k, hk, rfl, rfl, ho, hb⟩ := hrel
    by_cases hlk : k < n
    · have hq : x / 256 ^ k < 4294967296 := Nat.lt_of_le_of_lt (Nat.div_le_self _ _) hx
      have hq2 := leB_succ k x
      have hq3 : x / 256 ^ (k + 1) = x / 256 ^ k / 256 := by rw [Nat.pow_succ, Nat.div_div_eq_div_mul]
      have HQ := Lib.hid hq2
      have HR := Lib.hid hq3
      clear hq2 hq3
      generalize x / 256 ^ k = q at *
      have hwr := hb.out.size
      go_wp2_with (at_builtin; refine app_B _ rfl _ _ rfl B u0 (xs ++ leB k x) (q % 256) wr.heap.size 1 rfl rfl ?c0 ?c1 ?c2 ?c3 ?c4)
      case c0 => exact ho.out.tr (by (repeat (first | with_reducible exact Below.refl _ _ | with_reducible refine kp_alloc ?_ _ | with_reducible refine kp_drew ?_ | with_reducible refine kp_set ?_ (by first | omega | (simp; done) | (simp; omega)) _ | with_reducible refine kp_tr ?_ (by with_reducible assumption))))
      case c1 => simp [byteV]
      case c2 => simp [leB_len]; omega
      case c3 => simp; omega
      case c4 =>
      intro v' w2 ho2 hg hat
      have H2 : Hid (OwnB w2 B v' (xs ++ leB (k + 1) x)) := Lib.hid (by rw [HQ.out]; simpa using ho2)
      have H3 : Hid (Below B w w2) := Lib.hid (grown_below hg (bel_alloc hb.out hB _) hB ho.out.block)
      clear ho2 hg hat
      go_wp2_with fail
      refine ⟨⟨k + 1, by omega, by go_num, ?_, H2, H3⟩, by simp [intOf]; omega⟩
      rw [HR.out]
      rfl
    · obtain rfl : k = n := by omega
      go_wp2_with fail
      go_ret
      exact ⟨_, rfl, ho.out, hb.out⟩
/-- A number of 32 bits as four bytes. -/
def halfS (x : Nat) : ByteArray := strB (le4 x)
theorem putHalf_any (x : Nat) (w : World) (hx : x < 4294967296) :
    Calls Tryz.prog 85 #[.int .u32 x] w fun e w' => e = .returned (.string (halfS x)) ∧ Below w.heap.size w w' := by
  go_enter Tryz.func85, Tryz.ntmps85
  go_wp2_with fail
  refine (lay32_any (.slice none 0 0) [] x w.heap.size 4 _ (by omega) hx (OwnB.nil _ _) (by simp) (by simp)).mono ?_; rintro e w1 ⟨v, rfl, ho, hb⟩
  have hs := ho.str  (by simp [leB_len])
  rw [List.nil_append, leB_4] at hs
  go_wp2_with fail
  go_ret
  exact ⟨rfl, hb⟩
end Go.Proofs.YtpgjploaliefdaaGreat.fr

namespace Go.Proofs.YtpgjploaliefdaaGreat.ga
open Go.RowKit
set_option linter.unusedVariables false
set_option linter.unusedSimpArgs false
def ren : Shelf.Ren := ⟨fun | 166 => 44 | 240 => 75 | 276 => 93 | 169 => 48 | _ => 0, fun | 0 => 0 | 3 => 3 | 4 => 4 | 5 => 5 | 9 => 9 | 20 => 20 | 37 => 91 | 70 => 90 | 72 => 93 | 75 => 95 | 80 => 99 | 127 => 137 | 164 => 157 | _ => 0, id⟩
theorem lays240 : Lays.n240 Tryz.prog ren where
  mixed := by kernel_rfl
  f240 := Tryz.func75.trans (congrArg some (by kernel_rfl))
  f276 := Tryz.func93.trans (congrArg some (by kernel_rfl))
  t0 := Tryz.underlying0
  a0 := Tryz.isAgg0
  z0 := Tryz.sizeOf0
  v0 := Tryz.zeroValue0
  t4 := Tryz.underlying4
  a4 := Tryz.isAgg4
  z4 := Tryz.sizeOf4
  v4 := Tryz.zeroValue4
  t9 := Tryz.underlying9
  a9 := Tryz.isAgg9
  z9 := Tryz.sizeOf9
  v9 := Tryz.zeroValue9
  t20 := Tryz.underlying20
  a20 := Tryz.isAgg20
  z20 := Tryz.sizeOf20
  v20 := Tryz.zeroValue20
  t70 := Tryz.underlying90
  a70 := Tryz.isAgg90
  z70 := Tryz.sizeOf90
  v70 := Tryz.zeroValue90
  t72 := Tryz.underlying93
  a72 := Tryz.isAgg93
  z72 := Tryz.sizeOf93
  v72 := Tryz.zeroValue93
  t164 := Tryz.underlying157
  a164 := Tryz.isAgg157
  z164 := Tryz.sizeOf157
  v164 := Tryz.zeroValue157
theorem lays166 : Lays.n166 Tryz.prog ren where
  mixed := by kernel_rfl
  f166 := Tryz.func44.trans (congrArg some (by kernel_rfl))
  f240 := Tryz.func75.trans (congrArg some (by kernel_rfl))
  f276 := Tryz.func93.trans (congrArg some (by kernel_rfl))
  t0 := Tryz.underlying0
  a0 := Tryz.isAgg0
  z0 := Tryz.sizeOf0
  v0 := Tryz.zeroValue0
  t3 := Tryz.underlying3
  a3 := Tryz.isAgg3
  z3 := Tryz.sizeOf3
  v3 := Tryz.zeroValue3
  t4 := Tryz.underlying4
  a4 := Tryz.isAgg4
  z4 := Tryz.sizeOf4
  v4 := Tryz.zeroValue4
  t9 := Tryz.underlying9
  a9 := Tryz.isAgg9
  z9 := Tryz.sizeOf9
  v9 := Tryz.zeroValue9
  t20 := Tryz.underlying20
  a20 := Tryz.isAgg20
  z20 := Tryz.sizeOf20
  v20 := Tryz.zeroValue20
  t37 := Tryz.underlying91
  a37 := Tryz.isAgg91
  z37 := Tryz.sizeOf91
  v37 := Tryz.zeroValue91
  t70 := Tryz.underlying90
  a70 := Tryz.isAgg90
  z70 := Tryz.sizeOf90
  v70 := Tryz.zeroValue90
  t72 := Tryz.underlying93
  a72 := Tryz.isAgg93
  z72 := Tryz.sizeOf93
  v72 := Tryz.zeroValue93
  t75 := Tryz.underlying95
  a75 := Tryz.isAgg95
  z75 := Tryz.sizeOf95
  v75 := Tryz.zeroValue95
  t164 := Tryz.underlying157
  a164 := Tryz.isAgg157
  z164 := Tryz.sizeOf157
  v164 := Tryz.zeroValue157
theorem lays169 : Lays.n169 Tryz.prog ren where
  mixed := by kernel_rfl
  f169 := Tryz.func48.trans (congrArg some (by kernel_rfl))
  t0 := Tryz.underlying0
  a0 := Tryz.isAgg0
  z0 := Tryz.sizeOf0
  v0 := Tryz.zeroValue0
  t3 := Tryz.underlying3
  a3 := Tryz.isAgg3
  z3 := Tryz.sizeOf3
  v3 := Tryz.zeroValue3
  t9 := Tryz.underlying9
  a9 := Tryz.isAgg9
  z9 := Tryz.sizeOf9
  v9 := Tryz.zeroValue9
  t37 := Tryz.underlying91
  a37 := Tryz.isAgg91
  z37 := Tryz.sizeOf91
  v37 := Tryz.zeroValue91
  t70 := Tryz.underlying90
  a70 := Tryz.isAgg90
  z70 := Tryz.sizeOf90
  v70 := Tryz.zeroValue90
  t72 := Tryz.underlying93
  a72 := Tryz.isAgg93
  z72 := Tryz.sizeOf93
  v72 := Tryz.zeroValue93
  t127 := Tryz.underlying137
  a127 := Tryz.isAgg137
  z127 := Tryz.sizeOf137
  v127 := Tryz.zeroValue137
theorem layX72 : Builder.X72 Tryz.prog ren where
  sizeBuilder := by kernel_rfl
  liesBuilder := by kernel_rfl
theorem layX : Builder.Extra Tryz.prog ren := { layX72 with
  t5 := Tryz.underlying5,
  a5 := Tryz.isAgg5,
  z5 := Tryz.sizeOf5,
  v5 := Tryz.zeroValue5,
  infoByte := by kernel_rfl,
  cellsByte := by kernel_rfl,
  sizeByte := by kernel_rfl,
  neB5 := by decide }

/-- A builder of one's own. -/
def Bld (B b : Nat) (l : List UInt8) (w : World) : Prop := Lib.IsBuilderF 93 5 B b (Lib.byteCells l) w
theorem at_tr {T e : TypeId} {B b : Nat} {p : Value} {bs : List Value} {w w' : World} (h : Lib.BuilderAtF T e B b p bs w) (hb : Below w.heap.size w w') : Lib.BuilderAtF T e B b p bs w' := by
  have hl := h.lt
  obtain ⟨h1, v, h2, h3, h4⟩ := h
  refine ⟨h1, v, (hb.block b hl).trans h2, World.ownsRowF.kept h3 (row := none) ⟨hb.os, hb.tape, hb.output, hb.size, fun k hk _ => hb.block k hk⟩ ?_, h4⟩
  rcases hv : v.ownBlock with _ | k
  · exact .inl rfl
  · exact .inr (fun e => by cases e)
theorem Bld.tr {B b : Nat} {l : List UInt8} {w w' : World} (h : Bld B b l w) (hb : Below w.heap.size w w') : Bld B b l w' := h.elim (fun h => .inl (at_tr h hb)) (fun h => .inr (at_tr h hb))
theorem Bld.fresh (w : World) : Bld w.heap.size w.heap.size [] (w.alloc (.cells #[.pointer none, .slice none 0 0] 93)) := Lib.IsBuilderF.of (Lib.fresh_isBuilder _ _ w)
theorem write_any (B b : Nat) (l : List UInt8) (s : ByteArray) (w : World) (h : Bld B b l w) (hlen : l.length + s.size < 100000000000000) (hB : B ≤ w.heap.size) :
    Calls Tryz.prog 44 #[.pointer (some ⟨b, 0, none⟩), .string s] w fun e w' => e = .returned (.tuple #[.int .i64 s.size, .nilIface]) ∧ Bld B b (l ++ s.data.toList) w' ∧ Below B w w' := by
  refine (Any.Builder_WriteString_f lays166 layX B b (Lib.byteCells l) s w h (by rw [Lib.byteCells_length]; omega) hB).mono ?_
  rintro e w' ⟨rfl, h1, h2⟩
  refine ⟨rfl, .inr ?_, h2⟩
  have e : Lib.byteCells (l ++ s.data.toList) = Lib.byteCells l ++ Lib.strCells s := by simp [Lib.byteCells, Lib.strCells]
  rw [e]
  exact h1
theorem string_any (B b : Nat) (l : List UInt8) (w : World) (h : Bld B b l w) (hB : B ≤ w.heap.size) :
    Calls Tryz.prog 48 #[.pointer (some ⟨b, 0, none⟩)] w fun e w' => e = .returned (.string ⟨l.toArray⟩) ∧ Bld B b l w' ∧ Below B w w' :=
  Any.Builder_String_any_f lays169 layX B b l w h hB
attribute [irreducible] Bld
end Go.Proofs.YtpgjploaliefdaaGreat.ga
