/- image.Objects. No conditions. -/
import Derived.Test.YtpgjploaliefdaaIb
import Derived.Test.YtpgjploaliefdaaDi
import Derived.Shelf.Strings.BuilderK
namespace Go.Proofs.Ytpgjploaliefdaa.im
open Go Go.RowKit Go.Proofs.Ytpgjploaliefdaa.cm Go.Proofs.Ytpgjploaliefdaa.cw Go.Proofs.Ytpgjploaliefdaa.ga Go.Proofs.Ytpgjploaliefdaa.gr Go.Proofs.Ytpgjploaliefdaa.ob Go.Proofs.Ytpgjploaliefdaa.hd Go.Proofs.Ytpgjploaliefdaa.cp
open Go.Proofs.Ytpgjploaliefdaa.fr (OwnB leB leB_succ leB_len strB app_B bel_alloc putN putN_10 putN_pos strB_size byteV put_any rowN row_any)
set_option linter.unusedVariables false
set_option linter.unusedSimpArgs false
set_option maxRecDepth 100000
set_option maxHeartbeats 2000000
/-- Numbers from a place on. -/
def sub (zs : List Int) (a n : Nat) : List Int := (zs.take (a + n)).drop a
theorem sub_len {zs : List Int} {a n : Nat} (h : a + n ≤ zs.length) : (sub zs a n).length = n := by simp [sub]; omega
theorem sub_get {zs : List Int} {a n i : Nat} (hi : i < n) : (sub zs a n).getD i 0 = zs.getD (a + i) 0 := by
  unfold sub
  simp only [List.getD, List.getElem?_drop, List.getElem?_take]
  rw [if_pos (by omega)]
theorem sub_small {zs : List Int} (h : Small zs) (a n : Nat) : Small (sub zs a n) := fun i => by
  by_cases hi : i < n
  · rw [sub_get hi]; exact h _
  · have : (sub zs a n).getD i 0 = 0 := by
      unfold sub
      simp only [List.getD, List.getElem?_drop, List.getElem?_take]
      rw [if_neg (by omega)]
      rfl
    rw [this]
    exact ⟨Int.le_refl _, by decide⟩
/-- A part of numbers that are read. -/
theorem nums_sub {W : World} {zs : List Int} {b off cap a n : Nat} {ad : Option Addr} (hw : WordsAt W b off zs.length zs) (hb : b < W.heap.size) (hl : zs.length < 1000000000000) (hc : zs.length ≤ cap) (hc2 : cap < 9223372036854775808) (h : a + n ≤ zs.length) (had : 0 < n → ad = some ⟨b, off + a, none⟩) (hnone : ad = none → cap - a = 0) : NumsIn W (.slice ad n (cap - a)) (sub zs a n) := by
  have hsl := sub_len h
  refine ⟨ad, b, off + a, cap - a, by rw [hsl], ⟨fun h => had (by omega), hnone⟩, by omega, by omega, hb, words_of fun i hi => ?_⟩
  rw [hsl] at hi
  rw [sub_get hi, Nat.add_assoc]
  exact hw.at (a + i) (by omega)
theorem row2_any (x y : Nat) (w : World) (b : Nat) (hb : Blk w b #[.int .u64 x, .int .u64 y] 24) (hx : x < 18446744073709551616) (hy : y < 18446744073709551616) :
    Calls Try.prog 7 #[.slice (some ⟨b, 0, none⟩) 2 2] w fun e w' => e = .returned (.string (strB (rowN [x, y]))) ∧ Below w.heap.size w w' := by
  obtain ⟨lb, cb, fb⟩ := hb.get
  exact row_any b 2 [x, y] w (fun i hi => by rcases (show i = 0 ∨ i = 1 by simp at hi; omega) with rfl | rfl <;> exact cb _) (fun i => by rcases i with _ | _ | i <;> simp [List.getD] <;> omega) (by simp) (by simp)
theorem row3_any (x y z : Nat) (w : World) (b : Nat) (hb : Blk w b #[.int .u64 x, .int .u64 y, .int .u64 z] 24) (hx : x < 18446744073709551616) (hy : y < 18446744073709551616) (hz : z < 18446744073709551616) :
    Calls Try.prog 7 #[.slice (some ⟨b, 0, none⟩) 3 3] w fun e w' => e = .returned (.string (strB (rowN [x, y, z]))) ∧ Below w.heap.size w w' := by
  obtain ⟨lb, cb, fb⟩ := hb.get
  exact row_any b 3 [x, y, z] w (fun i hi => by rcases (show i = 0 ∨ i = 1 ∨ i = 2 by simp at hi; omega) with rfl | rfl | rfl <;> exact cb _) (fun i => by rcases i with _ | _ | _ | i <;> simp [List.getD] <;> omega) (by simp) (by simp)
def uRow (l : List Nat) : List UInt8 := (strB (rowN l)).data.toList
def uWords (zs : List Int) : List UInt8 := (strB (wordsN zs)).data.toList
/-- An object's bytes. -/
def objU (zs : List Int) (o : Ob) : List UInt8 := if o.g then uRow [1, o.t.toNat] else uRow [0, o.s.toNat, o.p.toNat] ++ refsU (sub zs (o.pos.toNat + 1) o.p.toNat) ++ uWords (sub zs (o.pos.toNat + 1 + o.p.toNat) (o.s.toNat - o.p.toNat))
def objOk (zs : List Int) (o : Ob) : Bool := o.g || (sub zs (o.pos.toNat + 1) o.p.toNat).all refOkB
def objsR (zs : List Int) (os : List Ob) : ByteArray × Int :=
  if (kindsF zs.length os []).isNone then (⟨#[]⟩, 1) else if os.all (objOk zs) then (⟨(uP os.length ++ os.flatMap (objU zs)).toArray⟩, 0) else (⟨#[]⟩, 3)
/-- Kinds that are told: the objects are among the words. -/
theorem kinds_fit {len : Nat} : ∀ {os : List Ob} {acc l : List Int}, kindsF len os acc = some l → ∀ o ∈ os, FitB len o
  | [], acc, l, h, o, ho => by simp at ho
  | c :: os, acc, l, h, o, ho => by
    have h : (if kindBad len acc c then none else kindsF len os (acc ++ kindO c)) = some l := h
    split at h
    · cases h
    · rename_i hb
      rcases List.mem_cons.1 ho with rfl | ho
      · have h1 : o.pos = acc.length := Decidable.byContradiction fun e => hb (.inl e)
        have h2 : rightB o.s o.p = true := by
          rcases e : rightB o.s o.p with _ | _
          · exact absurd (.inr (.inr (.inl e))) hb
          · rfl
        have h3 : ¬ (len : Int) - o.pos - 1 < o.s := fun e => hb (.inr (.inr (.inr e)))
        obtain ⟨r1, r2, r3, r4⟩ := rightB_t h2
        exact ⟨by omega, r1, r2, r3, r4, by omega⟩
      · exact kinds_fit h o ho
/-- A write into a builder of one's own: what is no row of bytes stays. -/
theorem writek_any (B b : Nat) (l : List UInt8) (s : ByteArray) (w : World) (h : Bld B b l w) (hlen : l.length + s.size < 100000000000000) (hB : B ≤ w.heap.size) :
    Calls Try.prog 11 #[.pointer (some ⟨b, 0, none⟩), .string s] w fun e w' => e = .returned (.tuple #[.int .i64 s.size, .nilIface]) ∧ Bld B b (l ++ s.data.toList) w' ∧ Below B w w' ∧ Lib.OthersKept 5 (some b) w w' := by
  unfold Bld at *
  refine (Any.Builder_WriteString_k lays166 layX B b (Lib.byteCells l) s w h (by rw [Lib.byteCells_length]; omega) hB).mono ?_
  rintro e w' ⟨rfl, h1, h2, h3⟩
  refine ⟨rfl, .inr ?_, h2, h3⟩
  have e : Lib.byteCells (l ++ s.data.toList) = Lib.byteCells l ++ Lib.strCells s := by simp [Lib.byteCells, Lib.strCells]
  rw [e]
  exact h1
theorem blk_ok {w w' : World} {n b : Nat} {cs : Array Value} {T : TypeId} (h : Blk w n cs T) (ho : Lib.OthersKept 5 (some b) w w') (hn : n ≠ b) (hT : T ≠ 5) : Blk w' n cs T :=
  Blk.of (ho n _ h.raw (fun e => hn (Option.some.inj e)) (fun c fz e => hT (by cases e; rfl)))
end Go.Proofs.Ytpgjploaliefdaa.im
