/- image.Objects. No conditions. -/
import Derived.Test.YtpgjploaliefdaaGreatG08
import Derived.Test.YtpgjploaliefdaaGreatG14
import Derived.Shelf.Strings.BuilderK
namespace Go.Proofs.YtpgjploaliefdaaGreat.im
open Go Go.RowKit cm cw ga gr ob hd cp
open fr (OwnB leB leB_succ leB_len strB app_B bel_alloc putN putN_10 putN_pos strB_size byteV put_any rowN row_any)
set_option linter.unusedVariables false
set_option linter.unusedSimpArgs false
set_option maxRecDepth 100000
set_option maxHeartbeats 2000000
def sub (zs : List Int) (a n : Nat) : List Int := (zs.take (a + n)).drop a
theorem sub_len {zs : List Int} {a n : Nat} (h : a + n ≤ zs.length) : (sub zs a n).length = n := by simp [sub]; omega
theorem sub_get {zs : List Int} {a n i : Nat} (hi : i < n) : (sub zs a n).getD i 0 = zs.getD (a + i) 0 := by
 unfold sub
 simp only [List.getD, List.getElem?_drop, List.getElem?_take]
 rw [if_pos (by omega)]
theorem sub_small {zs : List Int} (h : Small zs) (a n : Nat) : Small (sub zs a n) := fun i => by
 by_cases hi : i < n
 ·rw [sub_get hi]; exact h _
 ·have : (sub zs a n).getD i 0 = 0 := by
   unfold sub
   simp only [List.getD, List.getElem?_drop, List.getElem?_take]
   rw [if_neg (by omega)]
   rfl
  rw [this]
  exact ⟨Int.le_refl _, by decide⟩
theorem nums_sub {W : World} {zs : List Int} {b off cap a n : Nat} {ad : Option Addr} (hw : WordsAt W b off zs.length zs) (hb : b < W.heap.size) (hl : zs.length < 1000000000000) (hc : zs.length ≤ cap) (hc2 : cap < 9223372036854775808) (h : a + n ≤ zs.length) (had : 0 < n → ad = some ⟨b, off + a, none⟩) (hnone : ad = none → cap - a = 0) : NumsIn W (.slice ad n (cap - a)) (sub zs a n) := by
 have hsl := sub_len h
 refine ⟨ad, b, off + a, cap - a, by rw [hsl], ⟨fun h => had (by omega), hnone⟩, by omega, by omega, hb, words_of fun i hi => ?_⟩
 rw [hsl] at hi
 rw [sub_get hi, Nat.add_assoc]
 exact hw.at (a + i) (by omega)
theorem row2_any (x y : Nat) (w : World) (b : Nat) (hb : Blk w b #[.int .u64 x, .int .u64 y] 24) (hx : x < 18446744073709551616) (hy : y < 18446744073709551616) :
  Calls Tryz.prog 46 #[.slice (some ⟨b, 0, none⟩) 2 2] w fun e w' => e = .returned (.string (strB (rowN [x, y]))) ∧ Below w.heap.size w w' := by
 obtain ⟨lb, cb, fb⟩ := hb.get
 exact row_any b 2 [x, y] w (fun i hi => by rcases (show i = 0 ∨ i = 1 by simp at hi; omega) with rfl | rfl <;> exact cb _) (fun i => by rcases i with _ | _ | i <;> simp [List.getD] <;> omega) (by simp) (by simp)
theorem row3_any (x y z : Nat) (w : World) (b : Nat) (hb : Blk w b #[.int .u64 x, .int .u64 y, .int .u64 z] 24) (hx : x < 18446744073709551616) (hy : y < 18446744073709551616) (hz : z < 18446744073709551616) :
  Calls Tryz.prog 46 #[.slice (some ⟨b, 0, none⟩) 3 3] w fun e w' => e = .returned (.string (strB (rowN [x, y, z]))) ∧ Below w.heap.size w w' := by
 obtain ⟨lb, cb, fb⟩ := hb.get
 exact row_any b 3 [x, y, z] w (fun i hi => by rcases (show i = 0 ∨ i = 1 ∨ i = 2 by simp at hi; omega) with rfl | rfl | rfl <;> exact cb _) (fun i => by rcases i with _ | _ | _ | i <;> simp [List.getD] <;> omega) (by simp) (by simp)
def uRow (l : List Nat) : List UInt8 := (strB (rowN l)).data.toList
def uWords (zs : List Int) : List UInt8 := (strB (wordsN zs)).data.toList
def objU (zs : List Int) (o : Ob) : List UInt8 := if o.g then uRow [1, o.t.toNat] else uRow [0, o.s.toNat, o.p.toNat] ++ refsU (sub zs (o.pos.toNat + 1) o.p.toNat) ++ uWords (sub zs (o.pos.toNat + 1 + o.p.toNat) (o.s.toNat - o.p.toNat))
def objOk (zs : List Int) (o : Ob) : Bool := o.g || (sub zs (o.pos.toNat + 1) o.p.toNat).all refOkB
def objsR (zs : List Int) (os : List Ob) : ByteArray × Int :=
 if (kindsF zs.length os []).isNone then (⟨#[]⟩, 1) else if os.all (objOk zs) then (⟨(uP os.length ++ os.flatMap (objU zs)).toArray⟩, 0) else (⟨#[]⟩, 3)
theorem kinds_fit {len : Nat} : ∀ {os : List Ob} {acc l : List Int}, kindsF len os acc = some l → ∀ o ∈ os, FitB len o
 | [], acc, l, h, o, ho => by simp at ho
 | c :: os, acc, l, h, o, ho => by
  have h : (if kindBad len acc c then none else kindsF len os (acc ++ kindO c)) = some l := h
  split at h
  ·cases h
  ·rename_i hb
   rcases List.mem_cons.1 ho with rfl | ho
   ·have h1 : o.pos = acc.length := Decidable.byContradiction fun e => hb (.inl e)
    have h2 : rightB o.s o.p = true := by
     rcases e : rightB o.s o.p with _ | _
     ·exact absurd (.inr (.inr (.inl e))) hb
     ·rfl
    have h3 : ¬ (len : Int) - o.pos - 1 < o.s := fun e => hb (.inr (.inr (.inr e)))
    obtain ⟨r1, r2, r3, r4⟩ := rightB_t h2
    exact ⟨by omega, r1, r2, r3, r4, by omega⟩
   ·exact kinds_fit h o ho
theorem writek_any (B b : Nat) (l : List UInt8) (s : ByteArray) (w : World) (h : Bld B b l w) (hlen : l.length + s.size < 100000000000000) (hB : B ≤ w.heap.size) :
  Calls Tryz.prog 44 #[.pointer (some ⟨b, 0, none⟩), .string s] w fun e w' => e = .returned (.tuple #[.int .i64 s.size, .nilIface]) ∧ Bld B b (l ++ s.data.toList) w' ∧ Below B w w' ∧ Lib.OthersKept 5 (some b) w w' := by
 unfold Bld at *
 refine (Any.Builder_WriteString_k lays166 layX B b (Lib.byteCells l) s w h (by rw [Lib.byteCells_length]; omega) hB).mono ?_
 rintro e w' ⟨rfl, h1, h2, h3⟩
 refine ⟨rfl, .inr ?_, h2, h3⟩
 have e : Lib.byteCells (l ++ s.data.toList) = Lib.byteCells l ++ Lib.strCells s := by simp [Lib.byteCells, Lib.strCells]
 rw [e]
 exact h1
theorem blk_ok {w w' : World} {n b : Nat} {cs : Array Value} {T : TypeId} (h : Blk w n cs T) (ho : Lib.OthersKept 5 (some b) w w') (hn : n ≠ b) (hT : T ≠ 5) : Blk w' n cs T :=
 Blk.of (ho n _ h.raw (fun e => hn (Option.some.inj e)) (fun c fz e => hT (by cases e; rfl)))
end Go.Proofs.YtpgjploaliefdaaGreat.im
namespace Go.Proofs.YtpgjploaliefdaaGreat.im
open Go Go.RowKit cm cw ga gr ob hd cp
open fr (OwnB leB leB_succ leB_len strB app_B bel_alloc putN putN_10 putN_pos strB_size byteV put_any rowN row_any)
open ck (TgB obD_mem)
set_option linter.unusedVariables false
set_option linter.unusedSimpArgs false
set_option maxRecDepth 100000
set_option maxHeartbeats 4000000
theorem objsU_snoc (zs : List Int) (os : List Ob) (k : Nat) (h : k < os.length) : (os.take (k + 1)).flatMap (objU zs) = (os.take k).flatMap (objU zs) ++ objU zs (obD os k) := by
 rw [List.take_add_one, List.getElem?_eq_getElem h, List.flatMap_append]
 congr 1
 simp [obD, List.getD, h]
theorem objU_len {zs : List Int} {o : Ob} (hz : ∀ x ∈ zs, 0 ≤ x ∧ x < 18446744073709551616) (hf : FitB zs.length o) (ht : 0 ≤ o.t ∧ o.t < 18446744073709551616) : (objU zs o).length ≤ 5000 := by
 obtain ⟨f0, f1, f2, f3, f4, f5⟩ := hf
 have hs : ∀ l : List Nat, (strB l).data.toList.length = l.length := fun l => by
  rw [Array.length_toList]
  exact strB_size l
 unfold objU
 split
 ·unfold uRow
  rw [hs]
  have h1 := putN_10 (v := 1) (by omega)
  have h2 := putN_10 (v := o.t.toNat) (by omega)
  simp [rowN]
  omega
 ·have h1 := putN_10 (v := 0) (by omega)
  have h2 := putN_10 (v := o.s.toNat) (by omega)
  have h3 := putN_10 (v := o.p.toNat) (by omega)
  have h4 := refsU_len (sub zs (o.pos.toNat + 1) o.p.toNat) (fun x hx => hz x (List.mem_of_mem_take (List.mem_of_mem_drop hx)))
  have h5 : (sub zs (o.pos.toNat + 1) o.p.toNat).length = o.p.toNat := sub_len (by omega)
  have h6 : (sub zs (o.pos.toNat + 1 + o.p.toNat) (o.s.toNat - o.p.toNat)).length = o.s.toNat - o.p.toNat := sub_len (by omega)
  unfold uRow uWords
  rw [List.length_append, List.length_append, hs, hs, wordsN_len, h6]
  simp only [rowN, List.flatMap_cons, List.flatMap_nil, List.length_append, List.length_nil]
  omega
theorem size_u64 (W : World) : (sizeOf (Tryz.prog.elem 29)).run Tryz.prog W = .ok 1 W := by kernel_rfl
theorem slice_sub (b off n cap a k : Nat) (h : a + k ≤ cap) (l h' : Int) (hl : l = a) (hh : h' = ((a + k : Nat) : Int)) : ∃ A : Addr, (∀ W, (Instr.slice 29 (.slice (some ⟨b, off, none⟩) n cap) (some (.int .i64 l)) (some (.int .i64 h')) none).run Tryz.prog W = .ok (.slice (some A) k (cap - a)) W) ∧ (0 < k → A = ⟨b, off + a, none⟩) := by
 subst hl hh
 by_cases hc : cap = a
 ·refine ⟨⟨b, off, none⟩, fun W => ?_, fun h => by omega⟩
  have hk : k = 0 := by omega
  have := run_slice_lh (P := Tryz.prog) W 29 (some ⟨b, off, none⟩) n cap Tryz.underlying29 .i64 .i64 (a : Int) ((a + k : Nat) : Int) (by omega) (by omega) (by omega)
  rw [this, size_u64]
  simp [sliced, Result.andThen, hk, hc]
 ·refine ⟨⟨b, off + a, none⟩, fun W => ?_, fun _ => rfl⟩
  have := run_slice_lh (P := Tryz.prog) W 29 (some ⟨b, off, none⟩) n cap Tryz.underlying29 .i64 .i64 (a : Int) ((a + k : Nat) : Int) (by omega) (by omega) (by omega)
  rw [this, size_u64]
  simp [sliced, Result.andThen, hc, Addr.add]
  omega
theorem objs_any (u v0 : Value) (zs : List Int) (os : List Ob) (w : World) (hu : NumsIn w u zs) (hz : Small zs) (ho : ObjsIn w v0 os) (ht : TgB os) (hl : zs.length < 1000000) (hm : os.length < 1000000) :
  Calls Tryz.prog 15 #[u, v0] w fun e w' => e = .returned (.tuple #[.string (objsR zs os).1, .int .i64 (objsR zs os).2]) ∧ Below w.heap.size w w' := by
 obtain ⟨ad, b, off, cap, rfl, ⟨h1, h2⟩, h3, ⟨h4, h4'⟩, h5, h6⟩ := hu
 have HKc : Hid (Calls Tryz.prog 43 #[.slice ad zs.length cap, v0] w fun e w' => KindsPost w.heap.size (kindsF zs.length os []) e w' ∧ Below w.heap.size w w') := Lib.hid (kinds_any ad zs.length cap v0 os w (by omega) ho)
 obtain ⟨oa, ob, oo, oc, rfl, ⟨o1, o2⟩, o3, ⟨o4, o4'⟩, o5, o6⟩ := ho
 have HZ := Lib.hid hz
 have HZM : Hid (∀ x ∈ zs, 0 ≤ x ∧ x < 18446744073709551616) := small_mem hz
 have HT := Lib.hid ht
 have H1 := Lib.hid h1
 have H2 := Lib.hid h2
 have H6 := Lib.hid h6
 have HO1 := Lib.hid o1
 have HO6 := Lib.hid o6
 have HR : Hid (objsR zs os = if (kindsF zs.length os []).isNone then (⟨#[]⟩, 1) else if os.all (objOk zs) then (⟨(uP os.length ++ os.flatMap (objU zs)).toArray⟩, 0) else (⟨#[]⟩, 3)) := rfl
 generalize objsR zs os = R at *
 clear h1 h2 h6 hz ht o1 o2 o6
 rcases hK : kindsF zs.length os [] with _ | ks
 ·have HR1 : Hid (R = (⟨#[]⟩, 1)) := by show _ = _; rw [HR.out, hK]; rfl
  rw [hK] at HKc
  clear hK HR
  generalize zs.length = n at *
  generalize os.length = m at *
  go_enter Tryz.func15, Tryz.ntmps15
  go_wp2_with fail
  refine HKc.out.mono ?_; rintro e w1 ⟨hk, k1⟩
  have hk : e = .returned (.tuple #[.slice none 0 0, .int .i64 1]) := hk
  subst hk
  go_wp2_with fail
  go_ret2
  exact ⟨by rw [HR1.out]; rfl, k1⟩
 ·have HFit := Lib.hid (kinds_fit hK)
  have HR1 : Hid (R = if os.all (objOk zs) then (⟨(uP os.length ++ os.flatMap (objU zs)).toArray⟩, 0) else (⟨#[]⟩, 3)) := by show _ = _; rw [HR.out, hK]; rfl
  rw [hK] at HKc
  clear hK HR
  generalize hnn : zs.length = n at *
  have HNZ := Lib.hid hnn
  generalize hmm : os.length = m at *
  have HNO := Lib.hid hmm
  clear hnn hmm
  have HP : Hid (∀ W, Calls Tryz.prog 45 #[.int .u64 (m : Nat)] W fun e w' => e = .returned (.string (strB (putN m))) ∧ Below W.heap.size W w') := Lib.hid fun W => put_any m W (by omega)
  go_enter Tryz.func15, Tryz.ntmps15
  go_wp2_with fail
  refine HKc.out.mono ?_; rintro e w1 ⟨hk, k1⟩
  obtain ⟨kv, rfl, hk2⟩ : ∃ v, e = .returned (.tuple #[v, .int .i64 0]) ∧ OwnInts w1 w.heap.size v ks := hk
  have HB0 : Hid (Bld w1.heap.size w1.heap.size [] (w1.alloc (.cells #[.pointer none, .slice none 0 0] 93))) := Bld.fresh w1
  have hb0 : Hid (Below w.heap.size w (w1.alloc (.cells #[.pointer none, .slice none 0 0] 93))) := Lib.hid (by exact bm)
  have hws1 := k1.size
  clear hk2 HKc
  go_wp2_with fail
  refine (HP.out _).mono ?_; rintro e w2 ⟨rfl, k2⟩
  have HB2 := Lib.hid (HB0.out.tr k2)
  have hb2 : Hid (Below w.heap.size w w2) := Lib.hid (by have := hb0.out; exact bm)
  have hBs : w1.heap.size < w2.heap.size := Nat.lt_of_lt_of_le (by simp) k2.size
  have hsz : (strB (putN m)).size ≤ 10 := by
   rw [strB_size]
   exact putN_10 (by omega)
  have HU : Hid ((strB (putN m)).data.toList = uP m) := rfl
  clear k1 k2 HB0 hb0 HP
  generalize w1.heap.size = B at *
  go_wp2_with fail
  refine (write_any B B [] (strB (putN m)) _ HB2.out (by simp; omega) (Nat.le_of_lt hBs)).mono ?_; rintro e w3 ⟨rfl, hB3, k3⟩
  have HB3 : Hid (Bld B B (uP m) w3) := hB3
  have hb3 : Hid (Below w.heap.size w w3) := hb2.out.trans (k3.mono hws1)
  have hBs3 : B < w3.heap.size := Nat.lt_of_lt_of_le hBs k3.size
  have hul : (uP m).length ≤ 10 := (uP_len (by omega)).1
  clear hB3 k3 HB2 hb2 hBs HU hsz
  go_wp2_with fail
  go_loopw [31] (fun i wr => ∃ k : Nat, k ≤ m ∧ i = .int .i64 k ∧ Hid (∀ j, j < k → objOk zs (obD os j) = true) ∧ Hid (Bld B B (uP m ++ (os.take k).flatMap (objU zs)) wr) ∧ (uP m ++ (os.take k).flatMap (objU zs)).length ≤ 10 + 5000 * k ∧ B < wr.heap.size ∧ Hid (Below w.heap.size w wr)) (fun i _ => m - (intOf i).toNat)
  case atStart =>
   refine ⟨0, Nat.zero_le _, rfl, fun j hj => absurd hj (Nat.not_lt_zero _), ?_, ?_, hBs3, hb3.out⟩
   ·show Bld _ _ _ _
    simp only [List.take_zero, List.flatMap_nil, List.append_nil]
    exact HB3.out
   ·simp
    omega
  case round =>
   obtain ⟨k, hk, rfl, hok, hB, hdl, hBs, hb⟩ := hrel
   clear HB3 hb3 hBs3
   have hws := hb.out.size
   by_cases hlk : k < m
   ·obtain rfl := HO1.out (by omega)
    have hkl : k < os.length := by have := HNO.out; omega
    have hxk := (HO6.out.block (hb.out.block ob o5)).at k hlk
    obtain ⟨f0, f1, f2, f3, f4, f5⟩ := HFit.out _ (obD_mem hkl)
    obtain ⟨t1, t2⟩ := HT.out _ (obD_mem hkl)
    have HS := Lib.hid (objsU_snoc zs os k hkl)
    have HOL : Hid ((objU zs (obD os k)).length ≤ 5000) := Lib.hid (objU_len HZM.out (by have := HFit.out _ (obD_mem hkl); have h := HNZ.out; rw [h]; exact this) ⟨t1, t2⟩)
    have HNX : Hid (objOk zs (obD os k) = true → ∀ j, j < k + 1 → objOk zs (obD os j) = true) := fun e j hj => by
     rcases Nat.lt_or_ge j k with h | h
     ·exact hok.out j h
     ·obtain rfl : j = k := by omega
      exact e
    have HBD : Hid (objOk zs (obD os k) = false → R = (⟨#[]⟩, 3)) := fun e => by
     rw [HR1.out, if_neg]
     intro e2
     rw [List.all_eq_true.1 e2 _ (obD_mem hkl)] at e
     cases e
    clear hok
    generalize obD os k = o at *
    generalize (os.take k).flatMap (objU zs) = done0 at *
    obtain ⟨p0, sz, pp, g, t⟩ := o
    obtain ⟨x0, x1, x2, x3, x4⟩ := hxk
    dsimp only at x0 x1 x2 x3 x4 f0 f1 f2 f3 f4 f5 t1 t2
    obtain ⟨P0, rfl⟩ := Int.eq_ofNat_of_zero_le f0
    obtain ⟨S, rfl⟩ := Int.eq_ofNat_of_zero_le f1
    obtain ⟨PP, rfl⟩ := Int.eq_ofNat_of_zero_le f3
    obtain ⟨T, rfl⟩ := Int.eq_ofNat_of_zero_le t1
    rcases g with _ | _
    ·obtain rfl := H1.out (by omega)
     have j1 : ¬ (P0 : Int) + 1 < 0 := by omega
     have j2 : (P0 : Int) + 1 ≤ (P0 : Int) + 1 + PP := by omega
     have j3 : (P0 : Int) + 1 + PP ≤ cap := by omega
     obtain ⟨A1, hs1, ha1⟩ := slice_sub b off n cap (P0 + 1) PP (by omega) ((P0 : Int) + 1) ((P0 : Int) + 1 + PP) (by omega) (by omega)
     obtain ⟨A2, hs2, ha2⟩ := slice_sub b off n cap (P0 + 1 + PP) (S - PP) (by omega) ((P0 : Int) + 1 + PP) ((P0 : Int) + 1 + S) (by omega) (by omega)
     have HNa : Hid (NumsIn w (.slice (some A1) PP (cap - (P0 + 1))) (sub zs (P0 + 1) PP)) := nums_sub (b := b) (off := off) (by rw [HNZ.out]; exact H6.out) h5 (by rw [HNZ.out]; exact h4') (by rw [HNZ.out]; exact h3) h4 (by rw [HNZ.out]; omega) (fun h => by rw [ha1 h]) (fun e => by cases e)
     have HNb : Hid (NumsIn w (.slice (some A2) (S - PP) (cap - (P0 + 1 + PP))) (sub zs (P0 + 1 + PP) (S - PP))) := nums_sub (b := b) (off := off) (by rw [HNZ.out]; exact H6.out) h5 (by rw [HNZ.out]; exact h4') (by rw [HNZ.out]; exact h3) h4 (by rw [HNZ.out]; omega) (fun h => by rw [ha2 h]) (fun e => by cases e)
     have hla : (sub zs (P0 + 1) PP).length = PP := sub_len (by rw [HNZ.out]; omega)
     have hlb : (sub zs (P0 + 1 + PP) (S - PP)).length = S - PP := sub_len (by rw [HNZ.out]; omega)
     have HZa := Lib.hid (sub_small HZ.out (P0 + 1) PP)
     have HZb := Lib.hid (sub_small HZ.out (P0 + 1 + PP) (S - PP))
     have HRf : Hid (∀ W, Below w.heap.size w W → Calls Tryz.prog 17 #[.slice (some A1) PP (cap - (P0 + 1))] W fun e w' => e = .returned (.tuple #[.string (refsR (sub zs (P0 + 1) PP)).1, .int .i64 (refsR (sub zs (P0 + 1) PP)).2]) ∧ Below W.heap.size W w') := Lib.hid fun W hb => refs_any _ _ W (HNa.out.tr hb) HZa.out (by omega)
     have HWp : Hid (∀ W, Below w.heap.size w W → Calls Tryz.prog 47 #[.slice (some A2) (S - PP) (cap - (P0 + 1 + PP))] W fun e w' => e = .returned (.string (strB (wordsN (sub zs (P0 + 1 + PP) (S - PP))))) ∧ Below W.heap.size W w') := Lib.hid fun W hb => wput_any _ _ W (HNb.out.tr hb) HZb.out (by omega)
     have hrl := refsU_len (sub zs (P0 + 1) PP) (small_mem HZa.out)
     have hwl : (strB (wordsN (sub zs (P0 + 1 + PP) (S - PP)))).size ≤ 2040 := by
      rw [strB_size, wordsN_len]
      omega
     have hRl : (strB (rowN [0, S, PP])).size ≤ 30 := by
      rw [strB_size]
      have h1 := putN_10 (v := 0) (by omega)
      have h2 := putN_10 (v := S) (by omega)
      have h3 := putN_10 (v := PP) (by omega)
      simp [rowN]
      omega
     have HOU : Hid (objU zs ⟨(P0 : Int), (S : Int), (PP : Int), false, (T : Int)⟩ = (strB (rowN [0, S, PP])).data.toList ++ refsU (sub zs (P0 + 1) PP) ++ (strB (wordsN (sub zs (P0 + 1 + PP) (S - PP)))).data.toList) := rfl
     have HOK : Hid (objOk zs ⟨(P0 : Int), (S : Int), (PP : Int), false, (T : Int)⟩ = (sub zs (P0 + 1) PP).all refOkB) := by
      show (false || _) = _
      rw [Bool.false_or]
      rfl
     clear HNa HNb HZa HZb ha1 ha2 hlb
     generalize sub zs (P0 + 1 + PP) (S - PP) = zb at *
     generalize sub zs (P0 + 1) PP = za at *
     rcases hall : za.all refOkB with _ | _
     ·have HRR : Hid (refsR za = (⟨#[]⟩, 3)) := if_neg (by rw [hall]; decide)
      have HR3 := Lib.hid (HBD.out (HOK.out.trans hall))
      rw [HRR.out] at HRf
      have hKb : Hid (Below w.heap.size w (wr.alloc (.cells #[.int .i64 P0, .int .i64 S, .int .i64 PP, .bool false, .int .u64 T] 58))) := Lib.hid (by have := hb.out; exact bm)
      clear HNX HBD HS HOU HOK hall
      go_wp2_with fail
      refine (HRf.out _ hKb.out).mono ?_; rintro e w4 ⟨rfl, k4⟩
      go_wp2_with fail
      go_ret2
      exact ⟨by rw [HR3.out]; rfl, kp_tr hKb.out k4⟩
     ·have HRR : Hid (refsR za = (⟨(refsU za).toArray⟩, 0)) := if_pos hall
      have HNX2 := Lib.hid (HNX.out (HOK.out.trans hall))
      rw [HRR.out] at HRf
      have hKb : Hid (Below w.heap.size w (wr.alloc (.cells #[.int .i64 P0, .int .i64 S, .int .i64 PP, .bool false, .int .u64 T] 58))) := Lib.hid (by have := hb.out; exact bm)
      have Ko := Blk.new wr #[.int .i64 P0, .int .i64 S, .int .i64 PP, .bool false, .int .u64 T] 58
      have HB4 := Lib.hid (hB.out.tr ((Below.refl _ _).alloc (Nat.le_refl _) (.cells #[.int .i64 P0, .int .i64 S, .int .i64 PP, .bool false, .int .u64 T] 58)))
      clear HNX HBD HOK hall
      go_wp2_with fail
      refine (HRf.out _ hKb.out).mono ?_; rintro e w4 ⟨rfl, k4⟩
      have hb4 := Lib.hid (kp_tr hKb.out k4)
      have HB5 := Lib.hid (HB4.out.tr k4)
      have Ko4 := Ko.tr k4
      have hBs4 : B < w4.heap.size := Nat.lt_of_lt_of_le hBs (Nat.le_trans (by simp) k4.size)
      clear k4 hKb HB4 Ko HRf
      obtain ⟨lo, co, fo⟩ := Ko4.get
      go_wp2_with fail
      have K6 : Blk (w4.alloc (.cells #[.int .u64 (0 : Nat), .int .u64 S, .int .u64 PP] 24)) w4.heap.size #[.int .u64 (0 : Nat), .int .u64 S, .int .u64 PP] 24 := Blk.new _ _ _
      refine (row3_any 0 S PP _ w4.heap.size K6 (by omega) (by omega) (by omega)).mono ?_; rintro e w5 ⟨rfl, k5⟩
      have hno : wr.heap.size ≠ B := by omega
      have HB6 := Lib.hid ((HB5.out.tr ((Below.refl _ _).alloc (Nat.le_refl _) (.cells #[.int .u64 (0 : Nat), .int .u64 S, .int .u64 PP] 24))).tr k5)
      have Ko5 := (Ko4.alloc (.cells #[.int .u64 (0 : Nat), .int .u64 S, .int .u64 PP] 24)).tr k5
      have hb5 : Hid (Below w.heap.size w w5) := Lib.hid (by have := hb4.out; exact bm)
      have hBs5 : B < w5.heap.size := Nat.lt_of_lt_of_le hBs4 (Nat.le_trans (by simp) k5.size)
      clear k5 lo co fo Ko4 K6 HB5 hb4 hBs4
      generalize hU0 : uP m ++ done0 = D0 at *
      go_wp2_with fail
      refine (writek_any B B D0 (strB (rowN [0, S, PP])) _ HB6.out (by omega) (Nat.le_of_lt hBs5)).mono ?_; rintro e w6 ⟨rfl, hB7, k6, ok6⟩
      have HB7 := Lib.hid hB7
      have Ko6 := blk_ok Ko5 ok6 hno (by decide)
      have hb6 : Hid (Below w.heap.size w w6) := hb5.out.trans (k6.mono hws1)
      have hBs6 : B < w6.heap.size := Nat.lt_of_lt_of_le hBs5 k6.size
      have hD1 : (D0 ++ (strB (rowN [0, S, PP])).data.toList).length ≤ 40 + 5000 * k := by
       have hq : (strB (rowN [0, S, PP])).data.toList.length = (strB (rowN [0, S, PP])).size := Array.length_toList
       rw [List.length_append, hq]
       omega
      clear hB7 k6 ok6 Ko5 HB6 hb5 hBs5
      generalize hU1 : D0 ++ (strB (rowN [0, S, PP])).data.toList = D1 at *
      go_wp2_with fail
      have hRS : (⟨(refsU za).toArray⟩ : ByteArray).size = (refsU za).length := by simp [ByteArray.size]
      refine (writek_any B B D1 ⟨(refsU za).toArray⟩ _ HB7.out (by rw [hRS]; omega) (Nat.le_of_lt hBs6)).mono ?_; rintro e w7 ⟨rfl, hB8, k7, ok7⟩
      have HB8 : Hid (Bld B B (D1 ++ refsU za) w7) := Lib.hid (by simpa using hB8)
      have Ko7 := blk_ok Ko6 ok7 hno (by decide)
      have hb7 : Hid (Below w.heap.size w w7) := hb6.out.trans (k7.mono hws1)
      have hBs7 : B < w7.heap.size := Nat.lt_of_lt_of_le hBs6 k7.size
      have hD2 : (D1 ++ refsU za).length ≤ 2600 + 5000 * k := by
       rw [List.length_append]
       omega
      clear hB8 k7 ok7 Ko6 HB7 hb6 hBs6
      generalize hU2 : D1 ++ refsU za = D2 at *
      obtain ⟨lo, co, fo⟩ := Ko7.get
      go_wp2_with fail
      refine (HWp.out _ hb7.out).mono ?_; rintro e w8 ⟨rfl, k8⟩
      have HB9 := Lib.hid (HB8.out.tr k8)
      have hb8 : Hid (Below w.heap.size w w8) := Lib.hid (kp_tr hb7.out k8)
      have hBs8 : B < w8.heap.size := Nat.lt_of_lt_of_le hBs7 k8.size
      clear k8 HB8 hb7 hBs7 lo co fo Ko7
      go_wp2_with fail
      refine (writek_any B B D2 (strB (wordsN zb)) _ HB9.out (by omega) (Nat.le_of_lt hBs8)).mono ?_; rintro e w9 ⟨rfl, hB10, k9, ok9⟩
      have HE : Hid (uP m ++ (os.take (k + 1)).flatMap (objU zs) = D2 ++ (strB (wordsN zb)).data.toList) := by
       show _ = _
       rw [HS.out, HOU.out, ← hU2, ← hU1, ← hU0]
       simp [List.append_assoc]
      have HB11 : Hid (Bld B B (uP m ++ (os.take (k + 1)).flatMap (objU zs)) w9) := by
       show Bld _ _ _ _
       rw [HE.out]
       exact hB10
      have hb9 : Hid (Below w.heap.size w w9) := hb8.out.trans (k9.mono hws1)
      have hBs9 : B < w9.heap.size := Nat.lt_of_lt_of_le hBs8 k9.size
      have hD3 : Hid ((uP m ++ (os.take (k + 1)).flatMap (objU zs)).length ≤ 10 + 5000 * (k + 1)) := by
       show _ ≤ _
       have hq : (strB (wordsN zb)).data.toList.length = (strB (wordsN zb)).size := Array.length_toList
       rw [HE.out, List.length_append, hq]
       omega
      clear hB10 k9 ok9 HB9 hb8 HE
      go_wp2_with fail
      exact ⟨⟨k + 1, by omega, by go_num, HNX2.out, HB11.out, hD3.out, hBs9, hb9.out⟩, by simp [intOf]; omega⟩
    ·have hUl : (strB (rowN [1, T])).size ≤ 20 := by
      rw [strB_size]
      have h1 := putN_10 (v := 1) (by omega)
      have h2 := putN_10 (v := T) (by omega)
      simp [rowN]
      omega
     have HOU : Hid (objU zs ⟨(P0 : Int), (S : Int), (PP : Int), true, (T : Int)⟩ = (strB (rowN [1, T])).data.toList) := rfl
     have HNX2 := Lib.hid (HNX.out rfl)
     have HB4 := Lib.hid ((hB.out.tr ((Below.refl _ _).alloc (Nat.le_refl _) (.cells #[.int .i64 P0, .int .i64 S, .int .i64 PP, .bool true, .int .u64 T] 58))).tr ((Below.refl _ _).alloc (Nat.le_refl _) (.cells #[.int .u64 (1 : Nat), .int .u64 T] 24)))
     have hb4 : Hid (Below w.heap.size w ((wr.alloc (.cells #[.int .i64 P0, .int .i64 S, .int .i64 PP, .bool true, .int .u64 T] 58)).alloc (.cells #[.int .u64 (1 : Nat), .int .u64 T] 24))) := Lib.hid (by have := hb.out; exact bm)
     have K6 : Blk ((wr.alloc (.cells #[.int .i64 P0, .int .i64 S, .int .i64 PP, .bool true, .int .u64 T] 58)).alloc (.cells #[.int .u64 (1 : Nat), .int .u64 T] 24)) (wr.heap.size + 1) #[.int .u64 (1 : Nat), .int .u64 T] 24 := Blk.mk (by simp)
     clear HNX HBD
     go_wp2_with fail
     refine (row2_any 1 T _ (wr.heap.size + 1) K6 (by omega) (by omega)).mono ?_; rintro e w5 ⟨rfl, k5⟩
     have HB6 := Lib.hid (HB4.out.tr k5)
     have hb5 : Hid (Below w.heap.size w w5) := Lib.hid (kp_tr hb4.out k5)
     have hBs5 : B < w5.heap.size := Nat.lt_of_lt_of_le hBs (Nat.le_trans (by simp) k5.size)
     clear k5 K6 HB4 hb4
     generalize hU0 : uP m ++ done0 = D0 at *
     go_wp2_with fail
     refine (writek_any B B D0 (strB (rowN [1, T])) _ HB6.out (by omega) (Nat.le_of_lt hBs5)).mono ?_; rintro e w6 ⟨rfl, hB7, k6, ok6⟩
     have HE : Hid (uP m ++ (os.take (k + 1)).flatMap (objU zs) = D0 ++ (strB (rowN [1, T])).data.toList) := by
      show _ = _
      rw [HS.out, HOU.out, ← hU0]
      simp [List.append_assoc]
     have HB11 : Hid (Bld B B (uP m ++ (os.take (k + 1)).flatMap (objU zs)) w6) := by
      show Bld _ _ _ _
      rw [HE.out]
      exact hB7
     have hb9 : Hid (Below w.heap.size w w6) := hb5.out.trans (k6.mono hws1)
     have hBs9 : B < w6.heap.size := Nat.lt_of_lt_of_le hBs5 k6.size
     have hD3 : Hid ((uP m ++ (os.take (k + 1)).flatMap (objU zs)).length ≤ 10 + 5000 * (k + 1)) := by
      show _ ≤ _
      have hq : (strB (rowN [1, T])).data.toList.length = (strB (rowN [1, T])).size := Array.length_toList
      rw [HE.out, List.length_append, hq]
      omega
     clear hB7 k6 ok6 HB6 hb5 HE
     go_wp2_with fail
     exact ⟨⟨k + 1, by omega, by go_num, HNX2.out, HB11.out, hD3.out, hBs9, hb9.out⟩, by simp [intOf]; omega⟩
   ·obtain rfl : k = m := by omega
    have hok2 : os.take k = os := List.take_of_length_le (by have := HNO.out; omega)
    rw [hok2] at hB
    have HR2 : Hid (R = (⟨(uP k ++ os.flatMap (objU zs)).toArray⟩, 0)) := HR1.out.trans (if_pos (List.all_eq_true.2 fun x hx => by
     obtain ⟨i, hi, rfl⟩ := List.mem_iff_getElem.1 hx
     have h3 := hok.out i (by have := HNO.out; omega)
     have h4 : obD os i = os[i] := by simp [obD, List.getD, hi]
     rw [h4] at h3
     exact h3))
    clear hok hdl hok2
    go_wp2_with fail
    refine (string_any B B (uP k ++ os.flatMap (objU zs)) _ hB.out (Nat.le_of_lt hBs)).mono ?_; rintro e' w5 ⟨rfl, hB1, k5⟩
    have hb1 : Hid (Below w.heap.size w w5) := hb.out.trans (k5.mono hws1)
    clear hB1 k5 hB hb
    go_wp2_with fail
    go_ret2
    exact ⟨by rw [HR2.out]; rfl, hb1.out⟩
end Go.Proofs.YtpgjploaliefdaaGreat.im
namespace Go.Proofs.YtpgjploaliefdaaGreat.im
open Go Go.RowKit hp ob hd cp
open fr (strB putN rowN joinR)
set_option linter.unusedVariables false
set_option linter.unusedSimpArgs false
theorem kindO_len (o : Ob) : (kindO o).length = 1 + o.s.toNat := by simp [kindO]; omega
theorem kinds_chain {len : Nat} : ∀ {os : List Ob} {acc : List Int}, ChainO len acc.length os → (kindsF len os acc).isNone = false
 | [], acc, h => by
  unfold kindsF
  rw [if_pos (show acc.length = len from h)]
  rfl
 | o :: os, acc, h => by
  obtain ⟨h1, h2, h3, h4⟩ := h
  have hb : ¬ kindBad len acc o := by
   rintro (q | q | q | q)
   ·exact q h1
   ·omega
   ·rw [rightB_mk h2] at q
    cases q
   ·omega
  have e : kindsF len (o :: os) acc = kindsF len os (acc ++ kindO o) := by
   show (if kindBad len acc o then none else kindsF len os (acc ++ kindO o)) = _
   rw [if_neg hb]
  rw [e]
  refine kinds_chain ?_
  rw [List.length_append, kindO_len]
  have : acc.length + (1 + o.s.toNat) = acc.length + 1 + o.s.toNat := by omega
  rw [this]
  exact h4
theorem points_ref {pf : Int → Option Int} {x a b : Int} (h : pointsB pf x a b = true) : refOkB x = true := by
 unfold pointsB at h
 unfold refOkB
 rcases e : decide (x = 0) with _ | _
 ·rw [e, Bool.false_or, Bool.and_eq_true] at h
  rw [h.1]
  rfl
 ·rfl
theorem ptrs_ok {P : Int → Int → Bool} {zs : List Int} {os : List Ob} (hp : pointersB P zs os = true) (hP : ∀ a x, P a x = true → refOkB x = true) (hf : ∀ o ∈ os, FitB zs.length o) : os.all (objOk zs) = true := by
 rw [List.all_eq_true]
 intro o ho
 unfold pointersB at hp
 rw [List.all_eq_true] at hp
 have h1 := hp o ho
 unfold objOk
 rcases hg : o.g with _ | _
 ·rw [hg, Bool.false_or] at h1
  rw [Bool.false_or, List.all_eq_true]
  intro x hx
  obtain ⟨i, hi, rfl⟩ := List.mem_iff_getElem.1 hx
  obtain ⟨f0, f1, f2, f3, f4, f5⟩ := hf o ho
  have hsl : (sub zs (o.pos.toNat + 1) o.p.toNat).length = o.p.toNat := sub_len (by omega)
  have h2 : ∀ j, j < o.p.toNat → P (o.pos + 1 + j) (zs.getD (o.pos.toNat + 1 + j) 0) = true := by
   unfold ptrsB at h1
   simpa only [List.all_eq_true, List.mem_range] using h1
  have h3 := hP _ _ (h2 i (by omega))
  have h4 : (sub zs (o.pos.toNat + 1) o.p.toNat)[i] = zs.getD (o.pos.toNat + 1 + i) 0 := by
   rw [← sub_get (zs := zs) (a := o.pos.toNat + 1) (n := o.p.toNat) (i := i) (by omega)]
   simp [List.getD, hi]
  rw [h4]
  exact h3
 ·rfl
theorem looks_rest {h : Hp} {s : Fnd} (e : lookF h = some s) : boundedB h = true ∧ restingB h = true ∧ cp.Found h s ∧ copiedB h s = true ∧ settledB h s = true ∧ unscannedB h s = true ∧ leftB h s = true ∧ roomyB h s = true := by
 have step : ∀ {k : Nat} {t : Fnd} {b : Bool}, (if b then some t else none) = some s → b = true ∧ t = s := fun {k t b} h => by
  rcases b with _ | _
  ·cases h
  ·exact ⟨rfl, Option.some.inj h⟩
 obtain ⟨s7, e7, r7⟩ := looks_some (k := 7) e
 obtain ⟨a8, rfl⟩ := step (k := 0) (show (if roomyB h s7 then some s7 else none) = some s from r7)
 obtain ⟨s6, e6, r6⟩ := looks_some (k := 6) e7
 obtain ⟨a7, rfl⟩ := step (k := 0) (show (if leftB h s6 then some s6 else none) = some s7 from r6)
 obtain ⟨s5, e5, r5⟩ := looks_some (k := 5) e6
 obtain ⟨a6, rfl⟩ := step (k := 0) (show (if unscannedB h s5 then some s5 else none) = some s6 from r5)
 obtain ⟨s4, e4, r4⟩ := looks_some (k := 4) e5
 obtain ⟨a5, rfl⟩ := step (k := 0) (show (if settledB h s4 then some s4 else none) = some s5 from r4)
 obtain ⟨s3, e3, r3⟩ := looks_some (k := 3) e4
 obtain ⟨a4, rfl⟩ := step (k := 0) (show (if copiedB h s3 then some s3 else none) = some s4 from r3)
 obtain ⟨s2, e2, r2⟩ := looks_some (k := 2) e3
 obtain ⟨s1, e1, r1⟩ := looks_some (k := 1) e2
 obtain ⟨s0, e0, r0⟩ := looks_some (k := 0) e1
 have r0 : (if boundedB h then some s0 else none) = some s1 := r0
 have r1 : (if restingB h then some s1 else none) = some s2 := r1
 refine ⟨?_, ?_, found_of r2, a4, a5, a6, a7, a8⟩
 ·rcases hb : boundedB h with _ | _
  ·rw [hb] at r0; cases r0
  ·rfl
 ·rcases hb : restingB h with _ | _
  ·rw [hb] at r1; cases r1
  ·rfl
def partU (h : Hp) (s : Fnd) (q : Nat) : ByteArray := ⟨(uP (s.obs q).length ++ (s.obs q).flatMap (objU (h.part q))).toArray⟩
theorem part_ok {h : Hp} {s : Fnd} (e : lookF h = some s) (q : Nat) (hq : 1 ≤ q ∧ q ≤ 4) : objsR (h.part q) (s.obs q) = (partU h s q, 0) := by
 obtain ⟨a1, a2, hf, a4, a5, a6, a7, a8⟩ := looks_rest e
 have hc := hf.chain q hq
 unfold objsR
 rw [kinds_chain (acc := []) hc]
 have hfit : ∀ o ∈ s.obs q, FitB (h.part q).length o := fun o ho => (hc.from o ho).2
 have hall : (s.obs q).all (objOk (h.part q)) = true := by
  simp only [settledB, leftB, unscannedB, Bool.and_eq_true] at a5 a6 a7
  rcases (show q = 1 ∨ q = 2 ∨ q = 3 ∨ q = 4 by omega) with rfl | rfl | rfl | rfl
  ·
   rw [List.all_eq_true]
   intro o ho
   have hboth : pointersB (fun _ x => refOkB x) h.low s.o1 = true := by
    unfold pointersB at a5 a6 ⊢
    rw [List.all_eq_true]
    intro c hc'
    have h1 := (List.all_eq_true.1 a5.2.2) c hc'
    have h2 := (List.all_eq_true.1 a6) c hc'
    rcases hg : c.g with _ | _
    ·rw [hg, Bool.false_or] at h1 h2
     rw [Bool.false_or]
     unfold ptrsB at h1 h2 ⊢
     rw [List.all_eq_true] at h1 h2 ⊢
     intro i hi
     have h3 := h1 i hi
     have h4 := h2 i hi
     rw [Bool.or_eq_true] at h3 h4
     rcases h3 with h5 | h5
     ·rcases h4 with h6 | h6
      ·have h5 := of_decide_eq_true h5
       have h6 := of_decide_eq_true h6
       omega
      ·exact points_ref h6
     ·exact points_ref h5
    ·rfl
   exact List.all_eq_true.1 (ptrs_ok (zs := h.low) hboth (fun _ _ h => h) hfit) o ho
  ·exact ptrs_ok (zs := h.high) a5.2.1 (fun _ _ h => points_ref h) hfit
  ·exact ptrs_ok (zs := h.old) a7.1 (fun _ _ h => points_ref h) hfit
  ·exact ptrs_ok (zs := h.far) a7.2 (fun _ _ h => points_ref h) hfit
 rw [hall]
 rfl
theorem roots_ok {h : Hp} {s : Fnd} (e : lookF h = some s) : h.roots.all refOkB = true := by
 obtain ⟨a1, a2, hf, a4, a5, a6, a7, a8⟩ := looks_rest e
 simp only [settledB, Bool.and_eq_true] at a5
 rw [List.all_eq_true] at a5 ⊢
 exact fun x hx => points_ref (a5.1 x hx)
end Go.Proofs.YtpgjploaliefdaaGreat.im
namespace Go.Proofs.YtpgjploaliefdaaGreat.im
open Go Go.RowKit cm cw ga gr hp ob hd cp ck
open fr (strB putN rowN row_any put_any strB_size putN_10)
set_option linter.unusedVariables false
set_option linter.unusedSimpArgs false
set_option maxRecDepth 100000
set_option maxHeartbeats 4000000
theorem row6_any (x1 x2 x3 x4 x5 x6 : Nat) (w : World) (b : Nat) (hb : Blk w b #[.int .u64 x1, .int .u64 x2, .int .u64 x3, .int .u64 x4, .int .u64 x5, .int .u64 x6] 24) (h1 : x1 < 18446744073709551616) (h2 : x2 < 18446744073709551616) (h3 : x3 < 18446744073709551616) (h4 : x4 < 18446744073709551616) (h5 : x5 < 18446744073709551616) (h6 : x6 < 18446744073709551616) :
  Calls Tryz.prog 46 #[.slice (some ⟨b, 0, none⟩) 6 6] w fun e w' => e = .returned (.string (strB (rowN [x1, x2, x3, x4, x5, x6]))) ∧ Below w.heap.size w w' := by
 obtain ⟨lb, cb, fb⟩ := hb.get
 exact row_any b 6 [x1, x2, x3, x4, x5, x6] w (fun i hi => by rcases (show i = 0 ∨ i = 1 ∨ i = 2 ∨ i = 3 ∨ i = 4 ∨ i = 5 by simp at hi; omega) with rfl | rfl | rfl | rfl | rfl | rfl <;> exact cb _) (fun i => by rcases i with _ | _ | _ | _ | _ | _ | i <;> simp [List.getD] <;> omega) (by simp) (by simp)
def headN (h : Hp) : List Nat := [1, h.base.toNat, h.cap.toNat, h.tt.toNat, if h.cyc then 1 else 0, h.scan.toNat]
theorem head_any (h : Hp) (v : Hv) (w : World) (hin : HIn w h v) (hc0 : 0 ≤ h.cap) (ht0 : 0 ≤ h.tt) (hs0 : 0 ≤ h.scan) :
  Calls Tryz.prog 30 #[hpV h v] w fun e w' => e = .returned (.string (strB (rowN (headN h)))) ∧ Below w.heap.size w w' := by
 have b1 := hin.base
 have b2 := hin.cap
 have b3 := hin.tt
 have b4 := hin.scan
 have HIN := Lib.hid hin
 obtain ⟨la, lc, e1⟩ := nums_form hin.low
 obtain ⟨ha, hc, e2⟩ := nums_form hin.high
 obtain ⟨oa, oc, e3⟩ := nums_form hin.old
 obtain ⟨fa, fc, e4⟩ := nums_form hin.far
 obtain ⟨ra, rc, e5⟩ := nums_form hin.roots
 clear hin
 obtain ⟨vl, vh, vo, vf, vr⟩ := v
 dsimp only at e1 e2 e3 e4 e5
 subst e1 e2 e3 e4 e5
 unfold hpV at *
 dsimp only at *
 have HH : Hid (headN h = [1, h.base.toNat, h.cap.toNat, h.tt.toNat, if h.cyc then 1 else 0, h.scan.toNat]) := rfl
 generalize headN h = hn at *
 clear HIN
 obtain ⟨base, cap, tt, cyc, scan, low, high, old, far, roots⟩ := h
 dsimp only at *
 generalize low.length = nl at *
 generalize high.length = nh at *
 generalize old.length = no at *
 generalize far.length = nf at *
 generalize roots.length = nr at *
 obtain ⟨b1, b1'⟩ := b1
 obtain ⟨b2, b2'⟩ := b2
 obtain ⟨b3, b3'⟩ := b3
 obtain ⟨b4, b4'⟩ := b4
 obtain ⟨base, rfl⟩ := Int.eq_ofNat_of_zero_le b1
 obtain ⟨cap, rfl⟩ := Int.eq_ofNat_of_zero_le hc0
 obtain ⟨tt, rfl⟩ := Int.eq_ofNat_of_zero_le ht0
 obtain ⟨scan, rfl⟩ := Int.eq_ofNat_of_zero_le hs0
 rcases cyc with _ | _
 ·have HH2 : Hid (hn = [1, base, cap, tt, 0, scan]) := by
   show _ = _
   rw [HH.out]
   simp
  clear HH
  have K6 : Blk ((w.alloc (.cells #[.int .u64 base, .int .i64 cap, .int .i64 tt, .bool false, .int .i64 scan, .slice la nl lc, .slice ha nh hc, .slice oa no oc, .slice fa nf fc, .slice ra nr rc] 32)).alloc (.cells #[.int .u64 (1 : Nat), .int .u64 base, .int .u64 cap, .int .u64 tt, .int .u64 (0 : Nat), .int .u64 scan] 24)) (w.heap.size + 1) #[.int .u64 (1 : Nat), .int .u64 base, .int .u64 cap, .int .u64 tt, .int .u64 (0 : Nat), .int .u64 scan] 24 := Blk.mk (by simp)
  go_enter Tryz.func30, Tryz.ntmps30
  go_wp2_with fail
  refine (row6_any 1 base cap tt 0 scan _ (w.heap.size + 1) K6 (by omega) (by omega) (by omega) (by omega) (by omega) (by omega)).mono ?_; rintro e w1 ⟨rfl, k1⟩
  go_wp2_with fail
  go_ret
  refine ⟨by rw [HH2.out]; rfl, ?_⟩
  exact bm
 ·have HH2 : Hid (hn = [1, base, cap, tt, 1, scan]) := by
   show _ = _
   rw [HH.out]
   simp
  clear HH
  have K6 : Blk ((w.alloc (.cells #[.int .u64 base, .int .i64 cap, .int .i64 tt, .bool true, .int .i64 scan, .slice la nl lc, .slice ha nh hc, .slice oa no oc, .slice fa nf fc, .slice ra nr rc] 32)).alloc (.cells #[.int .u64 (1 : Nat), .int .u64 base, .int .u64 cap, .int .u64 tt, .int .u64 (1 : Nat), .int .u64 scan] 24)) (w.heap.size + 1) #[.int .u64 (1 : Nat), .int .u64 base, .int .u64 cap, .int .u64 tt, .int .u64 (1 : Nat), .int .u64 scan] 24 := Blk.mk (by simp)
  go_enter Tryz.func30, Tryz.ntmps30
  go_wp2_with fail
  refine (row6_any 1 base cap tt 1 scan _ (w.heap.size + 1) K6 (by omega) (by omega) (by omega) (by omega) (by omega) (by omega)).mono ?_; rintro e w1 ⟨rfl, k1⟩
  go_wp2_with fail
  go_ret
  refine ⟨by rw [HH2.out]; rfl, ?_⟩
  exact bm
def rootS (h : Hp) : ByteArray := strB (putN h.roots.length) ++ ⟨(refsU h.roots).toArray⟩
theorem roots_any (h : Hp) (v : Hv) (w : World) (hin : HIn w h v) (hr : h.roots.all refOkB = true) (hl : h.roots.length < 1000000) :
  Calls Tryz.prog 32 #[hpV h v] w fun e w' => e = .returned (.tuple #[.string (rootS h), .int .i64 0]) ∧ Below w.heap.size w w' := by
 have HRf : Hid (∀ W, Below w.heap.size w W → Calls Tryz.prog 17 #[v.r] W fun e w' => e = .returned (.tuple #[.string ⟨(refsU h.roots).toArray⟩, .int .i64 0]) ∧ Below W.heap.size W w') := Lib.hid fun W hb => by
  have := refs_any v.r h.roots W (hin.roots.tr hb) hin.sroots hl
  rw [show refsR h.roots = (⟨(refsU h.roots).toArray⟩, 0) from if_pos hr] at this
  exact this
 have HP : Hid (∀ W, Calls Tryz.prog 45 #[.int .u64 (h.roots.length : Nat)] W fun e w' => e = .returned (.string (strB (putN h.roots.length))) ∧ Below W.heap.size W w') := Lib.hid fun W => put_any _ W (by omega)
 have HIN := Lib.hid hin
 obtain ⟨la, lc, e1⟩ := nums_form hin.low
 obtain ⟨ha, hc, e2⟩ := nums_form hin.high
 obtain ⟨oa, oc, e3⟩ := nums_form hin.old
 obtain ⟨fa, fc, e4⟩ := nums_form hin.far
 obtain ⟨ra, rc, e5⟩ := nums_form hin.roots
 clear hin
 obtain ⟨vl, vh, vo, vf, vr⟩ := v
 dsimp only at e1 e2 e3 e4 e5
 subst e1 e2 e3 e4 e5
 unfold hpV at *
 dsimp only at *
 have HS : Hid (rootS h = strB (putN h.roots.length) ++ ⟨(refsU h.roots).toArray⟩) := rfl
 generalize rootS h = R at *
 have hX : (⟨(refsU h.roots).toArray⟩ : ByteArray).size ≤ 10000000 := by
  have h1 := refsU_len h.roots (small_mem HIN.out.sroots)
  have h2 : (⟨(refsU h.roots).toArray⟩ : ByteArray).size = (refsU h.roots).length := by simp [ByteArray.size]
  omega
 have hY : (strB (putN h.roots.length)).size ≤ 10 := by
  rw [strB_size]
  exact putN_10 (by omega)
 clear HIN
 generalize (⟨(refsU h.roots).toArray⟩ : ByteArray) = X at *
 generalize strB (putN h.roots.length) = Y at *
 have K0 : Blk (w.alloc (.cells #[.int .u64 h.base, .int .i64 h.cap, .int .i64 h.tt, .bool h.cyc, .int .i64 h.scan, .slice la h.low.length lc, .slice ha h.high.length hc, .slice oa h.old.length oc, .slice fa h.far.length fc, .slice ra h.roots.length rc] 32)) w.heap.size #[.int .u64 h.base, .int .i64 h.cap, .int .i64 h.tt, .bool h.cyc, .int .i64 h.scan, .slice la h.low.length lc, .slice ha h.high.length hc, .slice oa h.old.length oc, .slice fa h.far.length fc, .slice ra h.roots.length rc] 32 := Blk.new _ _ _
 go_enter Tryz.func32, Tryz.ntmps32
 go_wp2_with fail
 refine (HRf.out _ (by exact bm)).mono ?_; rintro e w1 ⟨rfl, k1⟩
 have K1 := K0.tr k1
 obtain ⟨l1, c1, f1⟩ := K1.get
 clear K0 f1
 go_wp2_with fail
 refine (HP.out _).mono ?_; rintro e w2 ⟨rfl, k2⟩
 go_wp2_with fail
 go_ret2
 refine ⟨by rw [HS.out]; rfl, ?_⟩
 exact bm
end Go.Proofs.YtpgjploaliefdaaGreat.im
