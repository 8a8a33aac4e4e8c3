/- The reference's Walk and WalkOld. No conditions. -/
import Derived.Test.YtiboinckdjiniaaRe
import Derived.Test.YtiboinckdjiniaaRd
namespace Go.Proofs.Ytiboinckdjiniaa.ob
open Go.RowKit Go.Proofs.Ytiboinckdjiniaa.hd
set_option linter.unusedVariables false
set_option linter.unusedSimpArgs false
theorem refwalk_in (v : Value) (zs : List Int) (w : World) (h : NumsIn w v zs) (hz : Small zs) (hl : zs.length < 1000000) :
    Calls Try.prog 13 #[v] w fun e W' => WalkedAs w.heap.size (newF zs) e W' ∧ Below w.heap.size w W' := by
  obtain ⟨ad, b, off, cap, rfl, ⟨a1, a2⟩, a3, a4, a5, a6⟩ := h
  have hwk := refwalk_new b off zs.length cap ad zs a1 a3 a4.1 hz w a6 hl
  have HW := Lib.hid hwk
  have HR : Hid (walkF bgN zs zs.length (zs.length + 1) 0 0 [] = newF zs) := rfl
  rcases hr : newF zs with ⟨l, k⟩ | ⟨c, k⟩
  · have HRR := Lib.hid hr
    generalize zs.length = n at *
    clear hwk hr a1 a6 hz
    go_enter Try.func13, Try.ntmps13
    go_wp2_with fail
    refine HW.out.mono ?_
    rintro e W' ⟨h, hb⟩
    rw [HR.out, HRR.out] at h
    obtain ⟨v, rfl, ho⟩ := h
    go_wp2_with fail
    go_ret2
    exact ⟨⟨v, rfl, ho⟩, hb⟩
  · have HRR := Lib.hid hr
    generalize zs.length = n at *
    clear hwk hr a1 a6 hz
    go_enter Try.func13, Try.ntmps13
    go_wp2_with fail
    refine HW.out.mono ?_
    rintro e W' ⟨h, hb⟩
    rw [HR.out, HRR.out] at h
    obtain rfl := h
    go_wp2_with fail
    go_ret2
    exact ⟨rfl, hb⟩
theorem refwalkold_in (v u : Value) (zs : List Int) (ss : List (Int × Int)) (w : World) (h : NumsIn w v zs) (hz : Small zs) (hs : ShapesIn w u ss) (hl : zs.length < 1000000) (hn : ss.length < 1000000) :
    Calls Try.prog 16 #[v, u] w fun e W' => WalkedAs w.heap.size (oldF zs ss) e W' ∧ Below w.heap.size w W' := by
  obtain ⟨ad, b, off, cap, rfl, ⟨a1, a2⟩, a3, a4, a5, a6⟩ := h
  obtain ⟨ad', b', off', cap', rfl, ⟨a1', a2'⟩, a3', a4', a5', a6'⟩ := hs
  have hwk := refwalk_old b off zs.length cap ad zs a1 a3 a4.1 hz b' off' ss.length cap' ad' ss a1' hn w a6 a6' hl
  have HW := Lib.hid hwk
  have HR : Hid (oldRes ss.length (walkF (bgO ss.length ss) zs zs.length (zs.length + 1) 0 0 []) = oldF zs ss) := rfl
  rcases hr : oldF zs ss with ⟨l, k⟩ | ⟨c, k⟩
  · have HRR := Lib.hid hr
    generalize zs.length = n at *
    generalize ss.length = m at *
    clear hwk hr a1 a6 hz a1' a6'
    go_enter Try.func16, Try.ntmps16
    go_wp2_with fail
    refine HW.out.mono ?_
    rintro e W' ⟨h, hb⟩
    rw [HR.out, HRR.out] at h
    obtain ⟨v, rfl, ho⟩ := h
    go_wp2_with fail
    go_ret2
    exact ⟨⟨v, rfl, ho⟩, hb⟩
  · have HRR := Lib.hid hr
    generalize zs.length = n at *
    generalize ss.length = m at *
    clear hwk hr a1 a6 hz a1' a6'
    go_enter Try.func16, Try.ntmps16
    go_wp2_with fail
    refine HW.out.mono ?_
    rintro e W' ⟨h, hb⟩
    rw [HR.out, HRR.out] at h
    obtain rfl := h
    go_wp2_with fail
    go_ret2
    exact ⟨rfl, hb⟩
end Go.Proofs.Ytiboinckdjiniaa.ob
