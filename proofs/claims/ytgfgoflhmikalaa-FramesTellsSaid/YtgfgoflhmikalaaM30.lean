/- Part 30 of what the proofs stand on: lemmas on worlds, on goroutines, contracts of functions. No conditions. -/
import Derived.Test.YtgfgoflhmikalaaM29
namespace Go.Proofs.Ytgfgoflhmikalaa.par
open Go Go.Conc
set_option linter.unusedVariables false
set_option linter.unusedSimpArgs false
set_option maxRecDepth 100000
/-! ### the body -/
def hA : Array Oper := #[op0 (some 8) (.move (.const (.int .i64 0))) 3, op0 (some 4) (.assign (.const (.bool true))) 4, opLen (some 7) (.tmp 0) 9, op0 (some 9) (.binOp .leq 3 (.tmp 7) (.const (.int .i64 999999999999)) 3) 4, opLen (some 10) (.tmp 1) 63, op0 (some 11) (.binOp .leq 3 (.tmp 10) (.const (.int .i64 999999999999)) 3) 4]
def hB : Array Oper := #[op0 (some 9) (.binOp .lss 3 (.tmp 8) (.tmp 10) 3) 4]
def hC : Array Oper := #[opCap (some 2) (.tmp 1), op0 (some 3) (.binOp .leq 3 (.const (.int .i64 1)) (.tmp 2) 3) 4]
def hD : Array Oper := #[opData (some 5) (.tmp 1), op0 (some 6) (.binOp .eql 144 (.tmp 5) (.const (.pointer none)) 144) 4]
def hE : Array Oper := #[op0 (some 11) (.indexAddr 63 (.tmp 1) (.tmp 8)) 0, op0 (some 9) (.load 3 (.tmp 11)) 3, op0 (some 5) (.alloc 101) 0, op0 (some 6) (.binOp .eql 144 (.tmp 11) (.tmp 5) 144) 4, op0 (some 12) (.load 65 (.tmp 11)) 65,
  op0 (some 13) (.field 65 (.tmp 12) 0) 3, op0 (some 2) (.field 65 (.tmp 12) 1) 3, op0 (some 14) (.field 65 (.tmp 12) 2) 3,
  op0 (some 15) (.binOp .leq 3 (.const (.int .i64 0)) (.tmp 13) 3) 4, op0 (some 3) (.binOp .leq 3 (.const (.int .i64 0)) (.tmp 2) 3) 4]
def hF : Array Oper := #[op0 (some 16) (.binOp .leq 3 (.tmp 13) (.tmp 14) 3) 4, op0 (some 9) (.binOp .leq 3 (.tmp 14) (.tmp 7) 3) 4]
def hG : Array Oper := #[op0 (some 15) (.binOp .add 3 (.tmp 14) (.const (.int .i64 4)) 3) 3, op0 (some 16) (.binOp .leq 3 (.tmp 15) (.tmp 7) 3) 4]
def hH : Array Oper := #[op0 (some 13) (.call { callee := .value (.func 46), args := #[.tmp 12, .tmp 0], argTypes := #[65, 9] }) 4]
def hI : Array Oper := #[op0 (some 4) (.assign (.const (.bool false))) 4]
def hJ : Array Oper := #[op0 (some 14) (.binOp .add 3 (.tmp 8) (.const (.int .i64 1)) 3) 3, op0 (some 8) (.move (.tmp 14)) 3]
def must (t : Tmp) (c : Code) : Code := .seq (.cond (.tmp t) .skip (.refuse "pruned")) c
def cJ : Code := .region 9 hJ false
def cI : Code := .seq (.cond (.tmp 13) .skip (.region 8 hI false)) cJ
def cH : Code := .seq (.region 7 hH false) cI
def cG : Code := .seq (.region 6 hG false) (must 16 cH)
def cF : Code := .seq (.region 5 hF false) (must 16 (must 9 cG))
def cE : Code := .seq (.region 4 hE false) (must 15 (must 3 cF))
def cD : Code := .seq (.region 3 hD false) (.seq (.cond (.tmp 6) (.refuse "pruned") .skip) cE)
def cC : Code := .seq (.region 2 hC false) (must 3 cD)
def cB : Code := .seq (.region 1 hB false) (.seq (.cond (.tmp 9) .skip (.exit 0)) cC)
def cL : Code := .seq (.block 0 (.loop cB)) .ret
def Hm : Code := .seq (.region 0 hA false) (must 9 (must 11 cL))
theorem pr_Hm : pr (Try.prog).toTables Hm = Hm := by kernel_rfl
/-! ### the walk -/
def TL (x0 x1 y2 y3 y4 y5 y6 y7 y8 y9 y10 y11 y12 y13 y14 y15 y16 : Value) : Act := ⟨#[x0, x1, y2, y3, y4, y5, y6, y7, y8, y9, y10, y11, y12, y13, y14, y15, y16], []⟩
section
variable {tl : List Frame} {R : FuncId → Value → World → Prop} {b : Frame} {cs : List Frame} {u : World} {s0 : LS} {k : List Item}
theorem come_must {t : Tmp} {c : Code} {a : Act} {x : Bool} (hx : a.eval (.tmp t) = .bool x) (h : Come (loneP Hm) tl R s0 (b.at a (.code (must t c) :: k)) cs u) : x = true ∧ Come (loneP Hm) tl R s0 (b.at a (.code c :: k)) cs u := by
  have h1 := come_cond hx (come_seq h)
  cases x with
  | true => exact ⟨rfl, come_skip h1⟩
  | false => exact (come_refuse h1).elim
theorem come_block {id : Nat} {c : Code} {a : Act} (h : Come (loneP Hm) tl R s0 (b.at a (.code (.block id c) :: k)) cs u) : Come (loneP Hm) tl R s0 (b.at a (.code c :: .inBlock id :: k)) cs u := h.go rfl (Nat.le_refl _) fun _ => stepG_block
theorem come_loop {c : Code} {a : Act} (h : Come (loneP Hm) tl R s0 (b.at a (.code (.loop c) :: k)) cs u) : Come (loneP Hm) tl R s0 (b.at a (.code c :: .inLoop c :: k)) cs u := h.go rfl (Nat.le_refl _) fun _ => stepG_loop
theorem come_inLoop {c : Code} {a : Act} (h : Come (loneP Hm) tl R s0 (b.at a (.inLoop c :: k)) cs u) : Come (loneP Hm) tl R s0 (b.at a (.code c :: .inLoop c :: k)) cs u := h.go rfl (Nat.le_refl _) fun _ => stepG_inLoop
theorem come_exit {id : Nat} {a : Act} {k' : List Item} (he : exitTo id k = some k') (h : Come (loneP Hm) tl R s0 (b.at a (.code (.exit id) :: k)) cs u) : Come (loneP Hm) tl R s0 (b.at a k') cs u := h.go rfl (Nat.le_refl _) fun _ => stepG_exit he
/-- The head. -/
theorem lone_head (hk : b.kind ≠ .early) {x0 x1 y2 y3 y4 y5 y6 y7 y8 y9 y10 y11 y12 y13 y14 y15 y16 : Value} (h : Come (loneP Hm) tl R s0 (b.at (TL x0 x1 y2 y3 y4 y5 y6 y7 y8 y9 y10 y11 y12 y13 y14 y15 y16) [.code Hm]) cs u) :
    ∃ (s : ByteArray) (ad : Option Addr) (n c : Nat), x0 = .string s ∧ x1 = .slice ad n c ∧ s.size < 1000000000000 ∧ n < 1000000000000 ∧
      ∃ z9 z11, Come (loneP Hm) tl R s0 (b.at (TL x0 x1 y2 y3 (.bool true) y5 y6 (.int .i64 (s.size : Nat)) (.int .i64 (0 : Nat)) z9 (.int .i64 (n : Nat)) z11 y12 y13 y14 y15 y16) [.code cB, .inLoop cB, .inBlock 0, .code .ret]) cs u := by
  have h0 := come_region (come_seq h)
  obtain ⟨v, u2, ⟨rfl, rfl⟩, h0⟩ := come_dich (P := loneP Hm) rfl rfl hk (d_move (.const (.int .i64 0)) rfl 3) h0
  change Come (loneP Hm) tl R s0 (b.at (TL x0 x1 y2 y3 y4 y5 y6 y7 (.int .i64 0) y9 y10 y11 y12 y13 y14 y15 y16) _) cs _ at h0
  obtain ⟨v, u2, ⟨rfl, rfl⟩, h0⟩ := come_dich (P := loneP Hm) rfl rfl hk (d_assign (.const (.bool true)) rfl 4) h0
  change Come (loneP Hm) tl R s0 (b.at (TL x0 x1 y2 y3 (.bool true) y5 y6 y7 (.int .i64 0) y9 y10 y11 y12 y13 y14 y15 y16) _) cs _ at h0
  obtain ⟨v, u2, ⟨rfl, s, e0, rfl⟩, h0⟩ := come_dich (P := loneP Hm) rfl rfl hk (d_lens (.tmp 0)) h0
  change Come (loneP Hm) tl R s0 (b.at (TL x0 x1 y2 y3 (.bool true) y5 y6 (.int .i64 (s.size : Nat)) (.int .i64 0) y9 y10 y11 y12 y13 y14 y15 y16) _) cs _ at h0
  change x0 = .string s at e0
  obtain ⟨v, u2, ⟨rfl, m, e1, rfl⟩, h0⟩ := come_dich (P := loneP Hm) rfl rfl hk (d_leq (.tmp 7) (.const (.int .i64 999999999999)) (m := (s.size : Nat)) rfl) h0
  change Come (loneP Hm) tl R s0 (b.at (TL x0 x1 y2 y3 (.bool true) y5 y6 (.int .i64 (s.size : Nat)) (.int .i64 0) (.bool (decide ((s.size : Int) ≤ m))) y10 y11 y12 y13 y14 y15 y16) _) cs _ at h0
  cases e1
  obtain ⟨v, u2, ⟨rfl, ad, n, c, e1, rfl⟩, h0⟩ := come_dich (P := loneP Hm) rfl rfl hk (d_len (.tmp 1)) h0
  change Come (loneP Hm) tl R s0 (b.at (TL x0 x1 y2 y3 (.bool true) y5 y6 (.int .i64 (s.size : Nat)) (.int .i64 0) (.bool (decide ((s.size : Int) ≤ 999999999999))) (.int .i64 (n : Nat)) y11 y12 y13 y14 y15 y16) _) cs _ at h0
  change x1 = .slice ad n c at e1
  obtain ⟨v, u2, ⟨rfl, m, e2, rfl⟩, h0⟩ := come_dich (P := loneP Hm) rfl rfl hk (d_leq (.tmp 10) (.const (.int .i64 999999999999)) (m := (n : Nat)) rfl) h0
  change Come (loneP Hm) tl R s0 (b.at (TL x0 x1 y2 y3 (.bool true) y5 y6 (.int .i64 (s.size : Nat)) (.int .i64 0) (.bool (decide ((s.size : Int) ≤ 999999999999))) (.int .i64 (n : Nat)) (.bool (decide ((n : Int) ≤ m))) y12 y13 y14 y15 y16) _) cs _ at h0
  cases e2
  obtain ⟨t1, h1⟩ := come_must rfl (come_regend h0)
  obtain ⟨t2, h2⟩ := come_must rfl h1
  have t1 := of_decide_eq_true t1
  have t2 := of_decide_eq_true t2
  exact ⟨s, ad, n, c, e0, e1, by omega, by omega, _, _, come_loop (come_block (come_seq h2))⟩
/-- What a round tells of the cut. -/
structure CutOk (u : World) (s : ByteArray) (p : Addr) (i : Nat) (c : Int × Int × Int) : Prop where
  spot : i = 0 → p.spot = none
  at0 : u.cell? ⟨p.block, p.off + i * 3, none⟩ = some (.int .i64 c.1)
  at1 : u.cell? ⟨p.block, p.off + i * 3 + 1, none⟩ = some (.int .i64 c.2.1)
  at2 : u.cell? ⟨p.block, p.off + i * 3 + 2, none⟩ = some (.int .i64 c.2.2)
  le0 : 0 ≤ c.1
  le1 : 0 ≤ c.2.1
  le2 : c.1 ≤ c.2.2
  le3 : c.2.2 + 4 ≤ (s.size : Int)
/-- What is known of cut.holds. -/
def HoldsAt (s : ByteArray) (gb : Int × Int × Int → Bool) : Prop := ∀ (c : Int × Int × Int) (w : World), 0 ≤ c.1 → 0 ≤ c.2.1 → c.1 ≤ c.2.2 → c.2.2 + 4 ≤ (s.size : Int) →
  Calls (loneP Hm) 46 #[.agg #[.int .i64 c.1, .int .i64 c.2.1, .int .i64 c.2.2], .string s] w (fun e w' => ∃ v, e = .returned v ∧ v = .bool (gb c) ∧ RowKit.Below w.heap.size w w')
theorem spot_of {u : World} {p : Addr} {v : Value} (h : u.cell? p = some v) : p.spot = none := by
  unfold World.cell? at h
  cases hs : p.spot with
  | none => rfl
  | some x =>
    rw [hs] at h
    split at h
    · simp at h
    · cases h
end
section
variable {R : FuncId → Value → World → Prop} {b : Frame} {cs : List Frame} {u : World} {s0 : LS}
set_option maxHeartbeats 1000000 in
/-- A round. -/
theorem lone_round (hR : ∀ g v w, R g v w → ∃ fn t, (loneP Hm).funcs[g]? = some fn ∧ fn.results = #[.tmp t]) (hk : b.kind ≠ .early) {s : ByteArray} {gb : Int × Int × Int → Bool} (hHo : HoldsAt s gb) (hs : s.size < 1000000000000) {x0 x1 y2 y3 y5 y6 y9 y11 y12 y13 y14 y15 y16 : Value} {ad : Option Addr} {n c i : Nat} {ok : Bool} (hx0 : x0 = .string s) (hx1 : x1 = .slice ad n c) (hn : n < 1000000000000) (hi : i ≤ n) (hr : ∀ p, ad = some p → Tame u p.block)
    (h : Come (loneP Hm) [c0 44] R s0 (b.at (TL x0 x1 y2 y3 (.bool ok) y5 y6 (.int .i64 (s.size : Nat)) (.int .i64 (i : Nat)) y9 (.int .i64 (n : Nat)) y11 y12 y13 y14 y15 y16) [.code cB, .inLoop cB, .inBlock 0, .code .ret]) cs u) :
    (i = n ∧ ∃ y9, Come (loneP Hm) [c0 44] R s0 (b.at (TL x0 x1 y2 y3 (.bool ok) y5 y6 (.int .i64 (s.size : Nat)) (.int .i64 (i : Nat)) y9 (.int .i64 (n : Nat)) y11 y12 y13 y14 y15 y16) [.code .ret]) cs u) ∨
    ∃ p cu u', i < n ∧ ad = some p ∧ CutOk u s p i cu ∧ RowKit.Below u.heap.size u u' ∧ ∃ y2 y3 y5 y6 y9 y11 y12 y13 y14 y15 y16, Come (loneP Hm) [c0 44] R s0 (b.at (TL x0 x1 y2 y3 (.bool (ok && gb cu)) y5 y6 (.int .i64 (s.size : Nat)) (.int .i64 ((i + 1 : Nat) : Int)) y9 (.int .i64 (n : Nat)) y11 y12 y13 y14 y15 y16) [.code cB, .inLoop cB, .inBlock 0, .code .ret]) cs u' := by
  subst hx0
  have h0 := come_region (come_seq h)
  obtain ⟨v, u2, ⟨rfl, rfl⟩, h0⟩ := come_dich (P := loneP Hm) rfl rfl hk (d_lss (.tmp 8) (.tmp 10) (m := (i : Nat)) (n := (n : Nat)) rfl rfl) h0
  change Come (loneP Hm) [c0 44] R s0 (b.at (TL (.string s) x1 y2 y3 (.bool ok) y5 y6 (.int .i64 (s.size : Nat)) (.int .i64 (i : Nat)) (.bool (decide ((i : Int) < (n : Int)))) (.int .i64 (n : Nat)) y11 y12 y13 y14 y15 y16) _) cs _ at h0
  have h1 := come_cond (t := decide ((i : Int) < (n : Int))) rfl (come_seq (come_regend h0))
  by_cases hlt : i < n
  · right
    have e1 : decide ((i : Int) < (n : Int)) = true := decide_eq_true (by omega)
    rw [e1] at h1
    have h2 := come_region (come_seq (come_skip h1))
    clear h h0 h1
    -- the capacity, and the address
    obtain ⟨v, u2, ⟨rfl, rfl⟩, h2⟩ := come_dich (P := loneP Hm) rfl rfl hk (d_cap (.tmp 1) (ad := ad) (n := n) (c := c) (by exact hx1)) h2
    change Come (loneP Hm) [c0 44] R s0 (b.at (TL (.string s) x1 (.int .i64 (c : Nat)) y3 (.bool ok) y5 y6 (.int .i64 (s.size : Nat)) (.int .i64 (i : Nat)) (.bool true) (.int .i64 (n : Nat)) y11 y12 y13 y14 y15 y16) _) cs _ at h2
    obtain ⟨v, u2, ⟨rfl, m, e2, rfl⟩, h2⟩ := come_dich (P := loneP Hm) rfl rfl hk (d_leq (.const (.int .i64 1)) (.tmp 2) (m := 1) rfl) h2
    change Come (loneP Hm) [c0 44] R s0 (b.at (TL (.string s) x1 (.int .i64 (c : Nat)) (.bool (decide ((1 : Int) ≤ m))) (.bool ok) y5 y6 (.int .i64 (s.size : Nat)) (.int .i64 (i : Nat)) (.bool true) (.int .i64 (n : Nat)) y11 y12 y13 y14 y15 y16) _) cs _ at h2
    cases e2
    obtain ⟨t1, h3⟩ := come_must (x := decide ((1 : Int) ≤ (c : Nat))) rfl (come_regend h2)
    have hc : c ≠ 0 := by have := of_decide_eq_true t1; omega
    have h2 := come_region (come_seq h3)
    clear h3
    obtain ⟨v, u2, ⟨rfl, rfl⟩, h2⟩ := come_dich (P := loneP Hm) rfl rfl hk (d_data (.tmp 1) (ad := ad) (n := n) (c := c) (by exact hx1) hc) h2
    change Come (loneP Hm) [c0 44] R s0 (b.at (TL (.string s) x1 (.int .i64 (c : Nat)) (.bool (decide ((1 : Int) ≤ (c : Nat)))) (.bool ok) (.pointer ad) y6 (.int .i64 (s.size : Nat)) (.int .i64 (i : Nat)) (.bool true) (.int .i64 (n : Nat)) y11 y12 y13 y14 y15 y16) _) cs _ at h2
    obtain ⟨v, u2, ⟨rfl, rfl⟩, h2⟩ := come_dich (P := loneP Hm) rfl rfl hk (d_nil (.tmp 5) (.const (.pointer none)) (ad := ad) rfl rfl) h2
    change Come (loneP Hm) [c0 44] R s0 (b.at (TL (.string s) x1 (.int .i64 (c : Nat)) (.bool (decide ((1 : Int) ≤ (c : Nat)))) (.bool ok) (.pointer ad) (.bool ad.isNone) (.int .i64 (s.size : Nat)) (.int .i64 (i : Nat)) (.bool true) (.int .i64 (n : Nat)) y11 y12 y13 y14 y15 y16) _) cs _ at h2
    have h4 := come_cond (t := ad.isNone) rfl (come_seq (come_regend h2))
    cases ad with
    | none => exact (come_refuse h4).elim
    | some p =>
    have h2 := come_region (come_seq (come_skip h4))
    clear h4
    obtain ⟨v, u2, ⟨rfl, rfl⟩, h2⟩ := come_dich (P := loneP Hm) rfl rfl hk (d_index (.tmp 1) (.tmp 8) (p := p) (n := n) (c := c) (i := i) (by exact hx1) rfl hlt) h2
    change Come (loneP Hm) [c0 44] R s0 (b.at (TL (.string s) x1 (.int .i64 (c : Nat)) (.bool (decide ((1 : Int) ≤ (c : Nat)))) (.bool ok) (.pointer (some p)) (.bool false) (.int .i64 (s.size : Nat)) (.int .i64 (i : Nat)) (.bool true) (.int .i64 (n : Nat)) (.pointer (some (p.add (i * 3)))) y12 y13 y14 y15 y16) _) cs _ at h2
    have hpb : (p.add (i * 3)).block = p.block := by unfold Addr.add; split <;> rfl
    obtain ⟨v, u2, ⟨rfl, hv⟩, h2⟩ := come_dich (P := loneP Hm) rfl rfl hk (d_load1 (.tmp 11) (p := p.add (i * 3)) rfl (by rw [hpb]; exact hr p rfl)) h2
    change Come (loneP Hm) [c0 44] R s0 (b.at (TL (.string s) x1 (.int .i64 (c : Nat)) (.bool (decide ((1 : Int) ≤ (c : Nat)))) (.bool ok) (.pointer (some p)) (.bool false) (.int .i64 (s.size : Nat)) (.int .i64 (i : Nat)) v (.int .i64 (n : Nat)) (.pointer (some (p.add (i * 3)))) y12 y13 y14 y15 y16) _) cs _ at h2
    generalize v = z9 at h2
    have hpl : p.block < u.heap.size := by
      rcases hr p rfl with ⟨_, _, _, h⟩ | ⟨_, _, h⟩ | ⟨_, _, h⟩ <;> exact (Array.getElem?_eq_some_iff.1 h).1
    have hold : ∀ b, b < u.heap.size → (u.alloc muxO).heap[b]? = u.heap[b]? := fun b hb => by
      show (u.heap.push _)[b]? = _
      rw [Array.getElem?_push, if_neg (by omega)]
    have hoc : ∀ a : Addr, a.block = p.block → (u.alloc muxO).cell? a = u.cell? a := fun a ha => by
      unfold World.cell?
      rw [ha, hold _ hpl]
    have hnew : (u.alloc muxO).heap[u.heap.size]? = some muxO := by
      show (u.heap.push _)[u.heap.size]? = _
      rw [Array.getElem?_push, if_pos rfl]
    obtain ⟨v, u2, ⟨rfl, rfl⟩, h2⟩ := come_dich (P := loneP Hm) rfl rfl hk (d_mux) h2
    change Come (loneP Hm) [c0 44] R s0 (b.at (TL (.string s) x1 (.int .i64 (c : Nat)) (.bool (decide ((1 : Int) ≤ (c : Nat)))) (.bool ok) (.pointer (some ⟨u.heap.size, 0, none⟩)) (.bool false) (.int .i64 (s.size : Nat)) (.int .i64 (i : Nat)) z9 (.int .i64 (n : Nat)) (.pointer (some (p.add (i * 3)))) y12 y13 y14 y15 y16) _) cs _ at h2
    have hl1 : (∃ w, (u.alloc muxO).cell? (p.add (i * 3)) = some w) ∨ ∃ a t, (u.alloc muxO).heap[(p.add (i * 3)).block]? = some (.view a t) := by
      rw [hoc _ hpb, hpb, hold _ hpl]
      rw [hpb] at hv
      exact hv
    obtain ⟨v, u2, ⟨rfl, ch, eh, fh, hcl⟩, h2⟩ := come_dich (P := loneP Hm) rfl rfl hk (d_fresh (.tmp 11) (.tmp 5) (p := p.add (i * 3)) (q := ⟨u.heap.size, 0, none⟩) rfl rfl hnew (by rw [hpb]; show p.block ≠ u.heap.size; omega) hl1) h2
    change Come (loneP Hm) [c0 44] R s0 (b.at (TL (.string s) x1 (.int .i64 (c : Nat)) (.bool (decide ((1 : Int) ≤ (c : Nat)))) (.bool ok) (.pointer (some ⟨u.heap.size, 0, none⟩)) v (.int .i64 (s.size : Nat)) (.int .i64 (i : Nat)) z9 (.int .i64 (n : Nat)) (.pointer (some (p.add (i * 3)))) y12 y13 y14 y15 y16) _) cs _ at h2
    generalize v = z6 at h2
    obtain ⟨v, u2, ⟨rfl, v0, v1, v2, q0, q1, q2, rfl⟩, h2⟩ := come_dich (P := loneP Hm) rfl rfl hk (d_load3 (.tmp 11) (p := p.add (i * 3)) rfl hcl) h2
    change Come (loneP Hm) [c0 44] R s0 (b.at (TL (.string s) x1 (.int .i64 (c : Nat)) (.bool (decide ((1 : Int) ≤ (c : Nat)))) (.bool ok) (.pointer (some ⟨u.heap.size, 0, none⟩)) z6 (.int .i64 (s.size : Nat)) (.int .i64 (i : Nat)) z9 (.int .i64 (n : Nat)) (.pointer (some (p.add (i * 3)))) (.agg #[v0, v1, v2]) y13 y14 y15 y16) _) cs _ at h2
    obtain ⟨v, u2, ⟨rfl, rfl⟩, h2⟩ := come_dich (P := loneP Hm) rfl rfl hk (d_field (.tmp 12) (v0 := v0) (v1 := v1) (v2 := v2) rfl 0 (by omega)) h2
    change Come (loneP Hm) [c0 44] R s0 (b.at (TL (.string s) x1 (.int .i64 (c : Nat)) (.bool (decide ((1 : Int) ≤ (c : Nat)))) (.bool ok) (.pointer (some ⟨u.heap.size, 0, none⟩)) z6 (.int .i64 (s.size : Nat)) (.int .i64 (i : Nat)) z9 (.int .i64 (n : Nat)) (.pointer (some (p.add (i * 3)))) (.agg #[v0, v1, v2]) v0 y14 y15 y16) _) cs _ at h2
    obtain ⟨v, u2, ⟨rfl, rfl⟩, h2⟩ := come_dich (P := loneP Hm) rfl rfl hk (d_field (.tmp 12) (v0 := v0) (v1 := v1) (v2 := v2) rfl 1 (by omega)) h2
    change Come (loneP Hm) [c0 44] R s0 (b.at (TL (.string s) x1 v1 (.bool (decide ((1 : Int) ≤ (c : Nat)))) (.bool ok) (.pointer (some ⟨u.heap.size, 0, none⟩)) z6 (.int .i64 (s.size : Nat)) (.int .i64 (i : Nat)) z9 (.int .i64 (n : Nat)) (.pointer (some (p.add (i * 3)))) (.agg #[v0, v1, v2]) v0 y14 y15 y16) _) cs _ at h2
    obtain ⟨v, u2, ⟨rfl, rfl⟩, h2⟩ := come_dich (P := loneP Hm) rfl rfl hk (d_field (.tmp 12) (v0 := v0) (v1 := v1) (v2 := v2) rfl 2 (by omega)) h2
    change Come (loneP Hm) [c0 44] R s0 (b.at (TL (.string s) x1 v1 (.bool (decide ((1 : Int) ≤ (c : Nat)))) (.bool ok) (.pointer (some ⟨u.heap.size, 0, none⟩)) z6 (.int .i64 (s.size : Nat)) (.int .i64 (i : Nat)) z9 (.int .i64 (n : Nat)) (.pointer (some (p.add (i * 3)))) (.agg #[v0, v1, v2]) v0 v2 y15 y16) _) cs _ at h2
    obtain ⟨v, u2, ⟨rfl, m0, e2, rfl⟩, h2⟩ := come_dich (P := loneP Hm) rfl rfl hk (d_leq (.const (.int .i64 0)) (.tmp 13) (m := 0) rfl) h2
    change Come (loneP Hm) [c0 44] R s0 (b.at (TL (.string s) x1 v1 (.bool (decide ((1 : Int) ≤ (c : Nat)))) (.bool ok) (.pointer (some ⟨u.heap.size, 0, none⟩)) z6 (.int .i64 (s.size : Nat)) (.int .i64 (i : Nat)) z9 (.int .i64 (n : Nat)) (.pointer (some (p.add (i * 3)))) (.agg #[v0, v1, v2]) v0 v2 (.bool (decide ((0 : Int) ≤ m0))) y16) _) cs _ at h2
    change v0 = .int .i64 m0 at e2
    subst e2
    obtain ⟨v, u2, ⟨rfl, m1, e2, rfl⟩, h2⟩ := come_dich (P := loneP Hm) rfl rfl hk (d_leq (.const (.int .i64 0)) (.tmp 2) (m := 0) rfl) h2
    change Come (loneP Hm) [c0 44] R s0 (b.at (TL (.string s) x1 v1 (.bool (decide ((0 : Int) ≤ m1))) (.bool ok) (.pointer (some ⟨u.heap.size, 0, none⟩)) z6 (.int .i64 (s.size : Nat)) (.int .i64 (i : Nat)) z9 (.int .i64 (n : Nat)) (.pointer (some (p.add (i * 3)))) (.agg #[.int .i64 m0, v1, v2]) (.int .i64 m0) v2 (.bool (decide ((0 : Int) ≤ m0))) y16) _) cs _ at h2
    change v1 = .int .i64 m1 at e2
    subst e2
    obtain ⟨t2, h3⟩ := come_must (x := decide ((0 : Int) ≤ m0)) rfl (come_regend h2)
    obtain ⟨t3, h3⟩ := come_must (x := decide ((0 : Int) ≤ m1)) rfl h3
    have h2 := come_region (come_seq h3)
    clear h3
    obtain ⟨v, u2, ⟨rfl, m2, e2, rfl⟩, h2⟩ := come_dich (P := loneP Hm) rfl rfl hk (d_leq (.tmp 13) (.tmp 14) (m := m0) rfl) h2
    change Come (loneP Hm) [c0 44] R s0 (b.at (TL (.string s) x1 (.int .i64 m1) (.bool (decide ((0 : Int) ≤ m1))) (.bool ok) (.pointer (some ⟨u.heap.size, 0, none⟩)) z6 (.int .i64 (s.size : Nat)) (.int .i64 (i : Nat)) z9 (.int .i64 (n : Nat)) (.pointer (some (p.add (i * 3)))) (.agg #[.int .i64 m0, .int .i64 m1, v2]) (.int .i64 m0) v2 (.bool (decide ((0 : Int) ≤ m0))) (.bool (decide (m0 ≤ m2)))) _) cs _ at h2
    change v2 = .int .i64 m2 at e2
    subst e2
    obtain ⟨v, u2, ⟨rfl, mm, e2, rfl⟩, h2⟩ := come_dich (P := loneP Hm) rfl rfl hk (d_leq (.tmp 14) (.tmp 7) (m := m2) rfl) h2
    change Come (loneP Hm) [c0 44] R s0 (b.at (TL (.string s) x1 (.int .i64 m1) (.bool (decide ((0 : Int) ≤ m1))) (.bool ok) (.pointer (some ⟨u.heap.size, 0, none⟩)) z6 (.int .i64 (s.size : Nat)) (.int .i64 (i : Nat)) (.bool (decide (m2 ≤ mm))) (.int .i64 (n : Nat)) (.pointer (some (p.add (i * 3)))) (.agg #[.int .i64 m0, .int .i64 m1, .int .i64 m2]) (.int .i64 m0) (.int .i64 m2) (.bool (decide ((0 : Int) ≤ m0))) (.bool (decide (m0 ≤ m2)))) _) cs _ at h2
    change Value.int .i64 (s.size : Nat) = .int .i64 mm at e2
    cases e2
    obtain ⟨t4, h3⟩ := come_must (x := decide (m0 ≤ m2)) rfl (come_regend h2)
    obtain ⟨t5, h3⟩ := come_must (x := decide (m2 ≤ (s.size : Nat))) rfl h3
    have h2 := come_region (come_seq h3)
    clear h3
    have t2 := of_decide_eq_true t2
    have t3 := of_decide_eq_true t3
    have t4 := of_decide_eq_true t4
    have t5 := of_decide_eq_true t5
    obtain ⟨v, u2, ⟨rfl, rfl⟩, h2⟩ := come_dich (P := loneP Hm) rfl rfl hk (d_add (.tmp 14) (.const (.int .i64 4)) (m := m2) (n := 4) rfl rfl) h2
    change Come (loneP Hm) [c0 44] R s0 (b.at (TL (.string s) x1 (.int .i64 m1) (.bool (decide ((0 : Int) ≤ m1))) (.bool ok) (.pointer (some ⟨u.heap.size, 0, none⟩)) z6 (.int .i64 (s.size : Nat)) (.int .i64 (i : Nat)) (.bool (decide (m2 ≤ (s.size : Nat)))) (.int .i64 (n : Nat)) (.pointer (some (p.add (i * 3)))) (.agg #[.int .i64 m0, .int .i64 m1, .int .i64 m2]) (.int .i64 m0) (.int .i64 m2) (.int .i64 (IntKind.i64.wrap (m2 + 4))) (.bool (decide (m0 ≤ m2)))) _) cs _ at h2
    obtain ⟨v, u2, ⟨rfl, mm, e2, rfl⟩, h2⟩ := come_dich (P := loneP Hm) rfl rfl hk (d_leq (.tmp 15) (.tmp 7) (m := IntKind.i64.wrap (m2 + 4)) rfl) h2
    change Come (loneP Hm) [c0 44] R s0 (b.at (TL (.string s) x1 (.int .i64 m1) (.bool (decide ((0 : Int) ≤ m1))) (.bool ok) (.pointer (some ⟨u.heap.size, 0, none⟩)) z6 (.int .i64 (s.size : Nat)) (.int .i64 (i : Nat)) (.bool (decide (m2 ≤ (s.size : Nat)))) (.int .i64 (n : Nat)) (.pointer (some (p.add (i * 3)))) (.agg #[.int .i64 m0, .int .i64 m1, .int .i64 m2]) (.int .i64 m0) (.int .i64 m2) (.int .i64 (IntKind.i64.wrap (m2 + 4))) (.bool (decide (IntKind.i64.wrap (m2 + 4) ≤ mm)))) _) cs _ at h2
    change Value.int .i64 (s.size : Nat) = .int .i64 mm at e2
    cases e2
    obtain ⟨t6, h3⟩ := come_must (x := decide (IntKind.i64.wrap (m2 + 4) ≤ (s.size : Nat))) rfl (come_regend h2)
    have t6 := of_decide_eq_true t6
    rw [IntKind.wrap_i64] at t6
    have t7 : m2 + 4 ≤ (s.size : Int) := by omega
    have h2 := come_region (come_seq h3)
    clear h3
    have h3 := come_enter (P := loneP Hm) (o := op0 (some 13) (.call { callee := .value (.func 46), args := #[.tmp 12, .tmp 0], argTypes := #[65, 9] }) 4) rfl rfl hk rfl (lfun46 (H := Hm)) (by kernel_rfl) (by kernel_rfl) (vs := #[.agg #[.int .i64 m0, .int .i64 m1, .int .i64 m2], .string s]) (by simp [TL, Act.eval]) h2
    obtain ⟨v, u3, ⟨hv3, hb3⟩, h4⟩ := come_calls (P := loneP Hm) (k := 44) (refused_at Hm) hR (lfun46 (H := Hm)) Try.results46 (hHo (m0, m1, m2) (u.alloc muxO) t2 t3 t4 t7) h3
    subst hv3
    have ed : (hH[0]?).bind (fun o : Oper => o.dst) = some 13 := rfl
    rw [Frame.finish_at, ed] at h4
    change Come (loneP Hm) [c0 44] R s0 (b.at (TL (.string s) x1 (.int .i64 m1) (.bool (decide ((0 : Int) ≤ m1))) (.bool ok) (.pointer (some ⟨u.heap.size, 0, none⟩)) z6 (.int .i64 (s.size : Nat)) (.int .i64 (i : Nat)) (.bool (decide (m2 ≤ (s.size : Nat)))) (.int .i64 (n : Nat)) (.pointer (some (p.add (i * 3)))) (.agg #[.int .i64 m0, .int .i64 m1, .int .i64 m2]) (.bool (gb (m0, m1, m2))) (.int .i64 m2) (.int .i64 (IntKind.i64.wrap (m2 + 4))) (.bool (decide (IntKind.i64.wrap (m2 + 4) ≤ (s.size : Nat))))) _) cs _ at h4
    have hbel : RowKit.Below u.heap.size u u3 := (RowKit.Below.alloc (RowKit.Below.refl _ _) (Nat.le_refl _) muxO).trans (hb3.mono (by simp))
    have hadd : p.add (i * 3) = ⟨p.block, p.off + i * 3, none⟩ := by
      have hsp := spot_of q0
      unfold Addr.add at hsp ⊢
      by_cases h0 : i * 3 = 0
      · rw [if_pos h0] at hsp ⊢
        obtain ⟨pb, po, ps⟩ := p
        dsimp only at hsp ⊢
        rw [hsp, h0]
        rfl
      · rw [if_neg h0]
    rw [hadd] at q0 q1 q2
    have hcut : CutOk u s p i (m0, m1, m2) := ⟨fun h0 => by
      have : p.add (i * 3) = p := by rw [h0]; rfl
      rw [this] at hadd
      rw [hadd], (hoc ⟨p.block, p.off + i * 3, none⟩ rfl).symm.trans q0, (hoc ⟨p.block, p.off + i * 3 + 1, none⟩ rfl).symm.trans q1, (hoc ⟨p.block, p.off + i * 3 + 2, none⟩ rfl).symm.trans q2, t2, t3, t4, t7⟩
    have h5 := come_cond (t := gb (m0, m1, m2)) rfl (come_seq (come_regend h4))
    refine ⟨p, (m0, m1, m2), u3, hlt, rfl, hcut, hbel, ?_⟩
    -- the round's end
    have last : ∀ ok' : Bool, Come (loneP Hm) [c0 44] R s0 (b.at (TL (.string s) x1 (.int .i64 m1) (.bool (decide ((0 : Int) ≤ m1))) (.bool ok') (.pointer (some ⟨u.heap.size, 0, none⟩)) z6 (.int .i64 (s.size : Nat)) (.int .i64 (i : Nat)) (.bool (decide (m2 ≤ (s.size : Nat)))) (.int .i64 (n : Nat)) (.pointer (some (p.add (i * 3)))) (.agg #[.int .i64 m0, .int .i64 m1, .int .i64 m2]) (.bool (gb (m0, m1, m2))) (.int .i64 m2) (.int .i64 (IntKind.i64.wrap (m2 + 4))) (.bool (decide (IntKind.i64.wrap (m2 + 4) ≤ (s.size : Nat))))) [.code cJ, .inLoop cB, .inBlock 0, .code .ret]) cs u3 → ∃ y2 y3 y5 y6 y9 y11 y12 y13 y14 y15 y16, Come (loneP Hm) [c0 44] R s0 (b.at (TL (.string s) x1 y2 y3 (.bool ok') y5 y6 (.int .i64 (s.size : Nat)) (.int .i64 ((i + 1 : Nat) : Int)) y9 (.int .i64 (n : Nat)) y11 y12 y13 y14 y15 y16) [.code cB, .inLoop cB, .inBlock 0, .code .ret]) cs u3 := by
      intro ok' h6
      have h2 := come_region h6
      have e8 : IntKind.i64.wrap ((i : Int) + 1) = ((i + 1 : Nat) : Int) := by rw [IntKind.wrap_i64]; omega
      obtain ⟨v, u2, ⟨rfl, rfl⟩, h2⟩ := come_dich (P := loneP Hm) rfl rfl hk (d_add (.tmp 8) (.const (.int .i64 1)) (m := (i : Nat)) (n := 1) rfl rfl) h2
      change Come (loneP Hm) [c0 44] R s0 (b.at (TL (.string s) x1 (.int .i64 m1) (.bool (decide ((0 : Int) ≤ m1))) (.bool ok') (.pointer (some ⟨u.heap.size, 0, none⟩)) z6 (.int .i64 (s.size : Nat)) (.int .i64 (i : Nat)) (.bool (decide (m2 ≤ (s.size : Nat)))) (.int .i64 (n : Nat)) (.pointer (some (p.add (i * 3)))) (.agg #[.int .i64 m0, .int .i64 m1, .int .i64 m2]) (.bool (gb (m0, m1, m2))) (.int .i64 (IntKind.i64.wrap ((i : Nat) + 1))) (.int .i64 (IntKind.i64.wrap (m2 + 4))) (.bool (decide (IntKind.i64.wrap (m2 + 4) ≤ (s.size : Nat))))) _) cs _ at h2
      obtain ⟨v, u2, ⟨rfl, rfl⟩, h2⟩ := come_dich (P := loneP Hm) rfl rfl hk (d_move (.tmp 14) rfl 3) h2
      change Come (loneP Hm) [c0 44] R s0 (b.at (TL (.string s) x1 (.int .i64 m1) (.bool (decide ((0 : Int) ≤ m1))) (.bool ok') (.pointer (some ⟨u.heap.size, 0, none⟩)) z6 (.int .i64 (s.size : Nat)) (.int .i64 (IntKind.i64.wrap ((i : Nat) + 1))) (.bool (decide (m2 ≤ (s.size : Nat)))) (.int .i64 (n : Nat)) (.pointer (some (p.add (i * 3)))) (.agg #[.int .i64 m0, .int .i64 m1, .int .i64 m2]) (.bool (gb (m0, m1, m2))) (.int .i64 (IntKind.i64.wrap ((i : Nat) + 1))) (.int .i64 (IntKind.i64.wrap (m2 + 4))) (.bool (decide (IntKind.i64.wrap (m2 + 4) ≤ (s.size : Nat))))) _) cs _ at h2
      rw [e8] at h2
      exact ⟨_, _, _, _, _, _, _, _, _, _, _, come_inLoop (come_regend h2)⟩
    cases hg : gb (m0, m1, m2) with
    | true =>
      rw [hg] at h5
      rw [Bool.and_true]
      rw [hg] at last
      exact last ok (come_skip h5)
    | false =>
      rw [hg] at h5
      rw [Bool.and_false]
      rw [hg] at last
      have h2 := come_region h5
      obtain ⟨v, u2, ⟨rfl, rfl⟩, h2⟩ := come_dich (P := loneP Hm) rfl rfl hk (d_assign (.const (.bool false)) rfl 4) h2
      change Come (loneP Hm) [c0 44] R s0 (b.at (TL (.string s) x1 (.int .i64 m1) (.bool (decide ((0 : Int) ≤ m1))) (.bool false) (.pointer (some ⟨u.heap.size, 0, none⟩)) z6 (.int .i64 (s.size : Nat)) (.int .i64 (i : Nat)) (.bool (decide (m2 ≤ (s.size : Nat)))) (.int .i64 (n : Nat)) (.pointer (some (p.add (i * 3)))) (.agg #[.int .i64 m0, .int .i64 m1, .int .i64 m2]) (.bool false) (.int .i64 m2) (.int .i64 (IntKind.i64.wrap (m2 + 4))) (.bool (decide (IntKind.i64.wrap (m2 + 4) ≤ (s.size : Nat))))) _) cs _ at h2
      exact last false (come_regend h2)
  · left
    have e1 : decide ((i : Int) < (n : Int)) = false := decide_eq_false (by omega)
    rw [e1] at h1
    exact ⟨by omega, _, come_exit rfl h1⟩
theorem CutOk.old {u0 u : World} {s : ByteArray} {p : Addr} {i : Nat} {c : Int × Int × Int} (h : CutOk u s p i c) (hb : RowKit.Below u0.heap.size u0 u) (hp : p.block < u0.heap.size) : CutOk u0 s p i c := by
  have e : ∀ o, u.cell? ⟨p.block, o, none⟩ = u0.cell? ⟨p.block, o, none⟩ := fun o => by
    unfold World.cell?
    dsimp only
    rw [hb.block _ hp]
  exact ⟨h.spot, (e _).symm.trans h.at0, (e _).symm.trans h.at1, (e _).symm.trans h.at2, h.le0, h.le1, h.le2, h.le3⟩
theorem Tame.below {u0 u : World} {r : Nat} (h : Tame u0 r) (hb : RowKit.Below u0.heap.size u0 u) : Tame u r := by
  have hr : r < u0.heap.size := by rcases h with ⟨_, _, _, h⟩ | ⟨_, _, h⟩ | ⟨_, _, h⟩ <;> exact (Array.getElem?_eq_some_iff.1 h).1
  unfold Tame
  rw [hb.block r hr]
  exact h
/-- The loop. -/
theorem lone_loop (hR : ∀ g v w, R g v w → ∃ fn t, (loneP Hm).funcs[g]? = some fn ∧ fn.results = #[.tmp t]) (hk : b.kind ≠ .early) {s : ByteArray} {gb : Int × Int × Int → Bool} (hHo : HoldsAt s gb) (hs : s.size < 1000000000000) {ad : Option Addr} {n c : Nat} (hn : n < 1000000000000) {u0 : World} (hr : ∀ p, ad = some p → Tame u0 p.block) :
    ∀ (m i : Nat) (ok : Bool) (u : World) (y2 y3 y5 y6 y9 y11 y12 y13 y14 y15 y16 : Value), n = i + m → RowKit.Below u0.heap.size u0 u →
      Come (loneP Hm) [c0 44] R s0 (b.at (TL (.string s) (.slice ad n c) y2 y3 (.bool ok) y5 y6 (.int .i64 (s.size : Nat)) (.int .i64 (i : Nat)) y9 (.int .i64 (n : Nat)) y11 y12 y13 y14 y15 y16) [.code cB, .inLoop cB, .inBlock 0, .code .ret]) cs u →
      ∃ (cu : Nat → Int × Int × Int) (ok' : Bool) (u' : World) (T : Array Value), (∀ j, i ≤ j → j < n → ∃ p, ad = some p ∧ CutOk u0 s p j (cu j)) ∧ (ok' = true ↔ ok = true ∧ ∀ j, i ≤ j → j < n → gb (cu j) = true) ∧ RowKit.Below u0.heap.size u0 u' ∧ T.getD 4 undef = .bool ok' ∧
        Come (loneP Hm) [c0 44] R s0 (b.at ⟨T, []⟩ [.code .ret]) cs u' := by
  intro m
  induction m with
  | zero =>
    intro i ok u y2 y3 y5 y6 y9 y11 y12 y13 y14 y15 y16 hm hb h
    rcases lone_round hR hk hHo hs rfl rfl hn (by omega) (fun p hp => (hr p hp).below hb) h with ⟨_, y9', h2⟩ | ⟨p, cu, u', hlt, _⟩
    · exact ⟨fun _ => (0, 0, 0), ok, u, _, fun j h1 h2 => by omega, ⟨fun h => ⟨h, fun j h1 h2 => by omega⟩, fun h => h.1⟩, hb, rfl, h2⟩
    · omega
  | succ m ih =>
    intro i ok u y2 y3 y5 y6 y9 y11 y12 y13 y14 y15 y16 hm hb h
    rcases lone_round hR hk hHo hs rfl rfl hn (by omega) (fun p hp => (hr p hp).below hb) h with ⟨h1, _⟩ | ⟨p, cu, u', hlt, hp, hc, hb2, z2, z3, z5, z6, z9, z11, z12, z13, z14, z15, z16, h2⟩
    · omega
    · have hbu : RowKit.Below u0.heap.size u0 u' := hb.trans (hb2.mono hb.size)
      obtain ⟨cs', ok', u2, T, g1, g2, g3, g4, g5⟩ := ih (i + 1) _ u' z2 z3 z5 z6 z9 z11 z12 z13 z14 z15 z16 (by omega) hbu h2
      have hpl : p.block < u0.heap.size := by rcases hr p hp with ⟨_, _, _, h⟩ | ⟨_, _, h⟩ | ⟨_, _, h⟩ <;> exact (Array.getElem?_eq_some_iff.1 h).1
      refine ⟨fun j => if j = i then cu else cs' j, ok', u2, T, fun j h1 h2 => ?_, ?_, g3, g4, g5⟩
      · dsimp only
        by_cases hj : j = i
        · subst hj
          rw [if_pos rfl]
          exact ⟨p, hp, hc.old hb hpl⟩
        · rw [if_neg hj]
          exact g1 j (by omega) h2
      · rw [g2, Bool.and_eq_true]
        constructor
        · rintro ⟨⟨h1, h2⟩, h3⟩
          refine ⟨h1, fun j h4 h5 => ?_⟩
          dsimp only
          by_cases hj : j = i
          · rw [if_pos hj]; exact h2
          · rw [if_neg hj]; exact h3 j (by omega) h5
        · rintro ⟨h1, h2⟩
          refine ⟨⟨h1, ?_⟩, fun j h4 h5 => ?_⟩
          · have := h2 i (Nat.le_refl _) hlt
            dsimp only at this
            rwa [if_pos rfl] at this
          · have := h2 j (by omega) h5
            dsimp only at this
            rwa [if_neg (by omega)] at this
theorem come_leave1 {P : Program} {k : FuncId} {c : Frame} {T : Array Value} {todo : List Item} {fn : Func} {t : Tmp} (hk : b.kind = .normal) (hf : P.funcs[b.fn]? = some fn) (hr : fn.results = #[.tmp t]) (h : Come P [c0 k] R s0 { b.at ⟨T, []⟩ todo with mode := .returning } (c :: cs) u) : Come P [c0 k] R s0 (c.finish (T.getD t undef)) cs u := by
  have hn : ¬ AtEndL { b.at ⟨T, []⟩ todo with mode := .returning } (c :: cs) := fun x => by cases x.1
  have hs : ∀ τ, stepG P true (G { b.at ⟨T, []⟩ todo with mode := .returning } ((c :: cs) ++ [c0 k])) (tp u τ) = .go (G (c.finish (T.getD t undef)) (cs ++ [c0 k])) (tp u τ) #[] := fun τ =>
    stepG_leave hk rfl hf (results_tmp hr _ _ _) (events_results_tmp hr _ _)
  exact ⟨h.lt.go hn (Nat.le_refl _) hs, .inr (h.desc.elim (fun e => e ▸ .single (desc_go hn (Nat.le_refl _) hs)) fun x => .trans (.single (desc_go hn (Nat.le_refl _) hs)) x)⟩
/-- HOLD'S LONE BODY: what a lone run that goes through it tells. -/
theorem hold_lone (hR : ∀ g v w, R g v w → ∃ fn t, (loneP Hm).funcs[g]? = some fn ∧ fn.results = #[.tmp t]) {gb : ByteArray → Int × Int × Int → Bool} (hHo : ∀ s : ByteArray, s.size < 1000000000000 → HoldsAt s (gb s)) {a : Array Value} (ha : a.size = 2) {c : Frame}
    (hr : ∀ p n cc, a.getD 1 undef = .slice (some p) n cc → Tame u p.block) (h : Come (loneP Hm) [c0 44] R s0 (Frame.enter (loneP Hm) 33 a .normal) (c :: cs) u) :
    ∃ (s : ByteArray) (ad : Option Addr) (n cap : Nat) (cu : Nat → Int × Int × Int) (v : Bool) (u' : World), a = #[.string s, .slice ad n cap] ∧ s.size < 1000000000000 ∧ n < 1000000000000 ∧ (∀ i, i < n → ∃ p, ad = some p ∧ CutOk u s p i (cu i)) ∧ (v = true ↔ ∀ i, i < n → gb s (cu i) = true) ∧ RowKit.Below u.heap.size u u' ∧
      Come (loneP Hm) [c0 44] R s0 (c.finish (.bool v)) cs u' := by
  obtain ⟨⟨l⟩, hl⟩ : ∃ a', a = a' := ⟨a, rfl⟩
  subst hl
  rcases l with _ | ⟨x0, _ | ⟨x1, _ | ⟨_, _⟩⟩⟩ <;> simp at ha
  have hf : (loneP Hm).funcs[33]? = some { Try.f33 with body := some Hm } := by
    rw [lone_funcs, lone_hold, pr_Hm]
  rw [enter_K hf rfl] at h
  change Come _ _ _ _ ((bK 33 .normal).at (TL x0 x1 undef undef undef undef undef undef undef undef undef undef undef undef undef undef undef) [.code Hm]) _ _ at h
  have hk : (bK 33 .normal).kind ≠ .early := by simp [bK]
  obtain ⟨s, ad, n, cc, rfl, rfl, h1, h2, z9, z11, h3⟩ := lone_head hk h
  obtain ⟨cu, ok', u', T, g1, g2, g3, g4, g5⟩ := lone_loop hR hk (hHo s h1) h1 h2 (u0 := u) (fun p hp => hr p n cc (by subst hp; rfl)) n 0 true u _ _ _ _ _ _ _ _ _ _ _ (by omega) (RowKit.Below.refl _ _) h3
  have h4 := come_leave1 (P := loneP Hm) (b := bK 33 .normal) rfl hf rfl (come_ret g5)
  refine ⟨s, ad, n, cc, cu, ok', u', rfl, h1, h2, fun i hi => g1 i (Nat.zero_le _) hi, ?_, g3, ?_⟩
  · rw [g2]
    exact ⟨fun h i hi => h.2 i (Nat.zero_le _) hi, fun h => ⟨rfl, fun j _ hj => h j hj⟩⟩
  · rw [← g4]
    exact h4
end
end Go.Proofs.Ytgfgoflhmikalaa.par

namespace Go.Proofs.Ytgfgoflhmikalaa.par
open Go Go.Conc
open Go.ConcN (CT PermW sumTo)
set_option linter.unusedVariables false
set_option linter.unusedSimpArgs false
section
variable {P : Program} {S : Nat → Prop}
/-- What is held of the trace, in the kit's words. -/
theorem Camp.past {gs : Array Goroutine} {w : World} {t : Trace} {O : Nat → Prop} {q : Nat → Nat} (h : Camp P S gs w t O q) : Past (inB S) w.heap.size t := by
  refine ⟨h.ti.ct.nr, fun i a ha hm => ?_, h.over, h.hear, h.ti.seen⟩
  obtain ⟨op, hop, hx⟩ := touch_of ha
  by_cases hs : inB S a.loc
  · obtain ⟨h1, h2⟩ := h.ti.ct.quiet i op a hop hx hs
    cases hk : a.kind with
    | plain => exact absurd hk h1
    | atomic => exact .inr ⟨hs, rfl⟩
    | said =>
      have := knows_own hop
      rw [h2 hk] at this
      exact .inl this
  · refine .inl (h.ti.ct.free a.loc hs (fun k k1 kj => ⟨fun ho => ?_, fun hr => ?_⟩) i a ha rfl)
    · obtain ⟨b, h1, _⟩ := inB.two ho ho
      omega
    · obtain ⟨b, h1, _⟩ := inB.two hr.2 hr.2
      exact h1
theorem Camp.leavers {gs : Array Goroutine} {w : World} {t : Trace} {O : Nat → Prop} {q : Nat → Nat} (h : Camp P S gs w t O q) : Leavers P t gs q :=
  ⟨fun i g hi hg => h.old i g (by omega) hg, fun j hj => h.ti.absent h.pos hj⟩
/-- THE RUN'S END. -/
theorem camp_end {Post : Value → World → Prop} {gs : Array Goroutine} {w : World} {sl : Option (Nat × Nat)} {t : Trace} {O : Nat → Prop} {q : Nat → Nat} {a : Goroutine} (h : Camp P S gs w t O q) (ha : gs[0]? = some a)
    (hend : ∀ w₁, AtRel w w₁ → a.status = .running ∧ ∃ v, stepG P true a w₁ = .ended (.done v) w₁ #[] ∧ Post v w₁) :
    ∃ N last o w' t', runNT P (N + 1) (crowd gs w sl) t = (.ended o w', t') ∧ runN P N (crowd gs w sl) = .next last ∧ step P last = .ended o w' ∧ Conc.Good P Post last o w' t' :=
  beside_ends (D := fun _ _ _ => False) (Shun := inB S) (B := w.heap.size) (n := 0) (fun _ _ _ h => h.elim) ha h.leavers h.past fun w₁ h₁ => by
    obtain ⟨h1, v, h2, h3⟩ := hend w₁ h₁
    exact ⟨h1, v, #[], h2, fun e he => absurd he (by simp), h3⟩
/-- THE RUN'S START. -/
theorem camp_start (a : Goroutine) (w : World) {O : Nat → Prop} (hO : ∀ b, O b → b < w.heap.size) : Camp P none1 #[a] w #[] O (fun _ => 0) := by
  refine ⟨fun i g hi hg => ?_, ⟨fun k b hb => hO b hb.2, fun k k' b h1 h2 => by rw [h1.1, h2.1], fun _ _ _ h => h, fun _ _ _ h => h, fun _ h => h.elim, fun _ h => h.elim, fun _ h => h.elim⟩, ⟨⟨?_, ?_, ?_, ?_, ?_, past_nil.clean, ?_⟩, fun op hop => absurd hop (by simp)⟩, rfl, by simp, past_nil.over⟩
  · have : i < 1 := by simpa using (Array.getElem?_eq_some_iff.1 hg).1
    omega
  · intro i op x ho; simp at ho
  · intro k _ _ l _ i a ha; simp [touchAt, Trace.act?] at ha
  · intro k _ _ l _ i a ha; simp [touchAt, Trace.act?] at ha
  · intro l _ _ i a ha; simp [touchAt, Trace.act?] at ha
  · intro l _ _ i a ha; simp [touchAt, Trace.act?] at ha
  · intro i op ho; simp at ho
end
section
variable {P : Program} {main : Bool} {U : Nat → Prop}
/-- What is not one's own stays as it is, beside leavers. -/
theorem OT.kept {Stop : (Nat → Prop) → Nat → Goroutine → World → Prop} {W : World} {X : Nat → Prop} {O : Nat → Prop} {d : Nat} {g : Goroutine} {w : World} (h : OT P main Env1 (fun O w w' es => Gu1 O w w' es ∧ Av U es) Stop O d g w) :
    (∀ b, X b → b < w.heap.size ∧ ¬ O b) → SameW X W w → OT P main Env1 (fun O w w' es => Gu1 O w w' es ∧ Av U es) (fun O' d g w => Stop O' d g w ∧ SameW X W w ∧ ∀ b, O' b → O b ∨ W.heap.size ≤ b) O d g w := by
  have hE : ∀ {O : Nat → Prop} {w w₁ : World}, Env1 O w w₁ → SameW X W w → SameW X W w₁ := fun {O w w₁} he hs =>
    ⟨he.env.tape.trans hs.tape, he.env.os.trans hs.os, he.env.output.trans hs.output, Nat.le_trans hs.size he.env.size, fun b hb => by
      have : w₁.heap = w.heap := he.live
      rw [this]
      exact hs.heap b hb⟩
  induction h with
  | stop h => exact fun _ hs => .stop fun w₁ he => ⟨h w₁ he, hE he hs, fun b hb => .inl hb⟩
  | @step O d g w hr g' w' es h hg _ ih =>
    intro hX hs
    refine OT.mk hr fun w₁ he => ⟨_, _, _, h w₁ he, hg w₁ he, ?_⟩
    have hh : w₁.heap = w.heap := he.live
    have hg1 := (hg w₁ he).1
    have hs1 := hE he hs
    refine OT.weaken (fun O' d g z ⟨x1, x2, x3⟩ => ⟨x1, x2, fun b hb => (x3 b hb).elim (fun h => h.elim .inl fun h => .inr (Nat.le_trans hs1.size h.1)) .inr⟩) (ih w₁ he (fun b hb => ?_) ⟨hg1.tape.trans hs1.tape, hg1.os.trans hs1.os, hg1.output.trans hs1.output, Nat.le_trans hs1.size hg1.size, fun b hb => ?_⟩)
    · obtain ⟨h1, h2⟩ := hX b hb
      rw [← hh] at h1
      refine ⟨Nat.lt_of_lt_of_le h1 hg1.size, fun ho => ho.elim h2 fun h3 => ?_⟩
      omega
    · obtain ⟨h1, h2⟩ := hX b hb
      rw [← hh] at h1
      exact (hg1.kept b h1 h2).trans (hs1.heap b hb)
end
section
variable {σ : Nat → Nat} {D : Nat → Prop} {T : Tables} {Sp : FuncId → Prop} {F' F : Array Func} {u : World}
/-- The lone run's return is the crowd's end. -/
theorem end_last {fr' fr : Frame} (hf : FrR σ D T Sp F' F fr' fr) {v : Value} (hl : fr'.leaving ⟨T, F'⟩ u (.returned v)) {fn : Func} {k : Tmp} (hfn : F[fr.fn]? = some fn) (hr : fn.results = #[.tmp k]) (hi : (⟨T, F⟩ : Program).inits.idxOf? fr.fn = none) (w : World) :
    ∃ v', VR σ D v v' ∧ stepG ⟨T, F⟩ true (G fr []) w = .ended (.done v') w #[] := by
  obtain ⟨hm, hd, hk, fn', hfn', hrun⟩ := hl
  obtain ⟨f', f, hf1, hf2, hres⟩ := hf.known
  have hfe := hf.fn
  have hmode := hf.mode
  have hdf := hf.defers
  have hkd := hf.kind
  rw [hm] at hmode
  rw [hd] at hdf
  generalize hy2 : fr.mode = y at hmode
  generalize hk2 : fr.defers = m at hdf
  cases hmode
  cases hdf
  obtain rfl : f' = fn' := Option.some.inj (hf1.symm.trans (by rw [← hfe]; exact hfn'))
  obtain rfl : f = fn := Option.some.inj (hf2.symm.trans hfn)
  rw [results_tmp (hres.trans hr)] at hrun
  injection hrun with hv _
  subst hv
  refine ⟨fr.tmps.getD k undef, ?_, ?_⟩
  · have := getD_rel hf.tmps k
    exact this
  · have h1 : (results f fr.tmps).runT (⟨T, F⟩ : Program) w #[] = (.ok (fr.tmps.getD k undef) w, #[]) := by
      rw [Sem.runT_eq, results_tmp hr, events_results_tmp hr]
    rw [unwind_step (by rw [hy2]; exact FrameMode.noConfusion), un_ret hk2 hy2 hf2 h1]
    have hkk : fr.kind = .normal := hkd.symm.trans hk
    unfold doReturn
    simp only [hkk, hi]
    rfl
end
end Go.Proofs.Ytgfgoflhmikalaa.par
