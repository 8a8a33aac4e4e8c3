/- Part 2 of what the proofs stand on: lemmas on worlds, on goroutines, contracts of functions. No conditions. -/
import Derived.Test.YtgfgoflhmikalaaM01
namespace Go.Proofs.Ytgfgoflhmikalaa.par
open Go
set_option linter.unusedVariables false
set_option linter.unusedSimpArgs false
section
variable {T : Tables} {F' F : Array Func}
theorem und_eq (t : TypeId) : Program.underlying (⟨T, F'⟩ : Program) t = Program.underlying (⟨T, F⟩ : Program) t := rfl
theorem cellsOf_eq (t : TypeId) : Program.cellsOf (⟨T, F'⟩ : Program) t = Program.cellsOf (⟨T, F⟩ : Program) t := rfl
theorem bytesOf_eq (t : TypeId) : Program.bytesOf (⟨T, F'⟩ : Program) t = Program.bytesOf (⟨T, F⟩ : Program) t := rfl
theorem depth_eq : Program.depth (⟨T, F'⟩ : Program) = Program.depth (⟨T, F⟩ : Program) := rfl
theorem byteOfCell_eq : ∀ (d : Nat) (t : TypeId) (off : Nat), byteOfCell (⟨T, F'⟩ : Program) d t off = byteOfCell (⟨T, F⟩ : Program) d t off
  | 0, t, off => rfl
  | d + 1, t, off => by
    unfold byteOfCell
    simp only [und_eq (F' := F') (F := F), cellsOf_eq (F' := F') (F := F), bytesOf_eq (F' := F') (F := F), byteOfCell_eq d]
theorem cellHolding_eq : ∀ (d : Nat) (t : TypeId) (b : Nat), cellHolding (⟨T, F'⟩ : Program) d t b = cellHolding (⟨T, F⟩ : Program) d t b
  | 0, t, b => rfl
  | d + 1, t, b => by
    unfold cellHolding
    simp only [und_eq (F' := F') (F := F), cellsOf_eq (F' := F') (F := F), bytesOf_eq (F' := F') (F := F), cellHolding_eq d]
theorem plainCell_eq : ∀ (d : Nat) (t : TypeId) (b : Nat), plainCell (⟨T, F'⟩ : Program) d t b = plainCell (⟨T, F⟩ : Program) d t b
  | 0, t, b => rfl
  | d + 1, t, b => by
    unfold plainCell
    simp only [und_eq (F' := F') (F := F), cellsOf_eq (F' := F') (F := F), bytesOf_eq (F' := F') (F := F), plainCell_eq d]
theorem tight_eq : ∀ (d : Nat) (t : TypeId), tight (⟨T, F'⟩ : Program) d t = tight (⟨T, F⟩ : Program) d t
  | 0, t => rfl
  | d + 1, t => by
    unfold tight
    simp only [und_eq (F' := F') (F := F), bytesOf_eq (F' := F') (F := F), tight_eq d]
end
section
variable {σ : Nat → Nat} {D : Nat → Prop} {W0 : World} {T : Tables} {F' F : Array Func}
theorem bytes_same {v v' : Value} (h : VR σ D v v') {bs : List UInt8} (hb : v.bytes? = some bs) : v' = v := by
  cases h <;> first | rfl | cases hb
theorem seenCells_rel {c c' : Array Value} (hc : VsR σ D c c') (e : TypeId) : ∀ (f x stop : Nat) (L : List (Nat × Nat × List UInt8)), seenCells (⟨T, F'⟩ : Program) c e f x stop = .ok L → seenCells (⟨T, F⟩ : Program) c' e f x stop = .ok L
  | 0, x, stop, L, h => by unfold seenCells at h; cases h
  | f + 1, x, stop, L, h => by
    unfold seenCells at h ⊢
    by_cases hx : x ≥ stop
    · rw [if_pos hx] at h ⊢; exact h
    rw [if_neg hx] at h ⊢
    simp only [cellHolding_eq (F' := F') (F := F), bytesOf_eq (F' := F') (F := F), cellsOf_eq (F' := F') (F := F), depth_eq (F' := F') (F := F)] at h
    by_cases hw : Program.bytesOf (⟨T, F⟩ : Program) e = 0
    · rw [if_pos hw] at h; cases h
    rw [if_neg hw] at h ⊢
    generalize (Option.map (fun (p : Nat × Nat) => (x / Program.bytesOf (⟨T, F⟩ : Program) e * Program.cellsOf (⟨T, F⟩ : Program) e + p.1, x / Program.bytesOf (⟨T, F⟩ : Program) e * Program.bytesOf (⟨T, F⟩ : Program) e + p.2)) (cellHolding (⟨T, F⟩ : Program) (Program.depth (⟨T, F⟩ : Program)) e (x % Program.bytesOf (⟨T, F⟩ : Program) e))) = o at h ⊢
    rcases o with _ | ⟨i, s⟩
    · cases h
    dsimp only at h ⊢
    rcases hi : c[i]? with _ | v
    · rw [hi] at h; cases h
    obtain ⟨v', hv', hvv⟩ := hc.get hi
    rw [hi] at h
    rw [hv']
    dsimp only at h ⊢
    rcases hb : v.bytes? with _ | bs
    · rw [hb] at h; cases h
    rw [bytes_same hvv hb, hb]
    rw [hb] at h
    rcases bs with _ | ⟨b, bs⟩
    · cases h
    dsimp only at h ⊢
    rcases hr : seenCells (⟨T, F'⟩ : Program) c e f (s + (b :: bs).length) stop with er | L0
    · rw [hr] at h; cases h
    · rw [hr] at h
      rw [seenCells_rel hc e f _ stop L0 hr]
      exact h
theorem seen_rel {u w : World} (hw : WR σ D W0 u w) {a a' : Addr} (ha : AR σ D a a') (ty : TypeId) {k k' : Addr} (hk : k'.off = k.off ∧ k'.spot = k.spot) (at' : Bool) {c : Array Value} {e : TypeId} {fr : Nat × Nat} {first : Nat} {like : Value} {L : List (Nat × Nat × List UInt8)}
    (h : u.seen (⟨T, F'⟩ : Program) a ty k at' = .ok (c, e, fr, first, like, L)) : ∃ c', VsR σ D c c' ∧ w.seen (⟨T, F⟩ : Program) a' ty k' at' = .ok (c', e, fr, first, like, L) ∧ u.heap[a.block]? = some (.cells c e fr) ∧ w.heap[a'.block]? = some (.cells c' e fr) := by
  have e1 : a'.block = σ a.block := by rw [ha.2]
  have e2 : a'.spot = a.spot := by rw [ha.2]
  have e3 : a'.off = a.off := by rw [ha.2]
  unfold World.seen at h ⊢
  rw [hk.1, hk.2, e2, e3]
  simp only [plainCell_eq (F' := F') (F := F), byteOfCell_eq (F' := F') (F := F), bytesOf_eq (F' := F') (F := F), cellsOf_eq (F' := F') (F := F), depth_eq (F' := F') (F := F), bind, Except.bind, pure, Except.pure, throw, throwThe, MonadExceptOf.throw] at h ⊢
  split at h
  · cases h
  rename_i hs
  rw [if_neg hs]
  try dsimp only at h ⊢
  split at h
  · rename_i lk hp
    try rw [hp]
    try dsimp only at h ⊢
    split at h
    · rename_i n hn
      try rw [hn]
      try dsimp only at h ⊢
      split at h
      · rename_i b hb
        try rw [hb]
        try dsimp only at h ⊢
        split at h
        · rename_i c0 e0 f0 ho
          obtain ⟨o', h1, h2⟩ := hw.obj _ _ ha.1 ho
          cases h2 with
          | @cells _ c' hv e f =>
          rw [e1, h1]
          try dsimp only at h ⊢
          split at h
          · cases h
          rename_i hz
          rw [if_neg hz]
          try dsimp only at h ⊢
          split at h
          · rename_i b0 hb0
            try rw [hb0]
            try dsimp only at h ⊢
            split at h
            · cases h
            rename_i L0 hL
            rw [seenCells_rel hv _ _ _ _ _ hL]
            try dsimp only at h ⊢
            refine ⟨c', ?_⟩
            split at h
            · rename_i ha1
              rw [if_pos ha1]
              split at h
              · split at h
                · cases h
                · rename_i hq
                  try dsimp only at h ⊢
                  cases h
                  rw [if_neg hq]
                  exact ⟨hv, rfl, ho, rfl⟩
              · cases h
            · rename_i ha1
              rw [if_neg ha1]
              cases h
              exact ⟨hv, rfl, ho, rfl⟩
          · cases h
        · cases h
      · cases h
    · cases h
  · cases h
theorem ofBytes_self {like v : Value} {bs : List UInt8} (h : like.ofBytes bs = some v) : VR σ D v v ∧ isTA v = false := by
  unfold Value.ofBytes at h
  split at h
  · split at h <;> first | (cases h; exact ⟨.bool _, rfl⟩) | cases h
  · split at h
    · cases h; exact ⟨.int _ _, rfl⟩
    · cases h
  · split at h
    · cases h; exact ⟨.float _ _, rfl⟩
    · cases h
  · split at h
    · cases h; exact ⟨.complex _ _ _, rfl⟩
    · cases h
  · cases h
theorem farLoad_rel {u w : World} (hw : WR σ D W0 u w) {a a' : Addr} (ha : AR σ D a a') (hc : u.cell? a = none) (at' : Bool) :
    match u.farLoad (⟨T, F'⟩ : Program) a at' with
    | .ok (v, L) => ∃ L', w.farLoad (⟨T, F⟩ : Program) a' at' = .ok (v, L') ∧ w.cell? a' = none ∧ VR σ D v v ∧ ∀ x ∈ L', ∃ r, D r ∧ x.block = σ r
    | .error x => badHalt x := by
  have e1 : a'.block = σ a.block := by rw [ha.2]
  unfold World.farLoad
  rcases ho : u.heap[a.block]? with _ | o
  · unfold World.noCell
    rw [ho]
    trivial
  rcases hw.is_cells ha.1 ho with ⟨c, e, f, rfl⟩ | ⟨x, x', t, rfl, ho', hx⟩ | ⟨x, x', t, rfl, ho', hx⟩
  · unfold World.noCell
    rw [ho]
    trivial
  rotate_left
  · unfold World.noCell
    rw [ho]
    trivial
  rw [e1, ho']
  dsimp only
  unfold World.viewLoad
  simp only [bind, Except.bind, pure, Except.pure, throw, throwThe, MonadExceptOf.throw]
  rcases hs : u.seen (⟨T, F'⟩ : Program) x t a at' with er | ⟨c, e, fr, first, like, L⟩
  · trivial
  obtain ⟨c', hc', hs', _, _⟩ := seen_rel hw hx t (k := a) (k' := a') ⟨by rw [ha.2], by rw [ha.2]⟩ at' hs
  rw [hs']
  dsimp only
  generalize (L.flatMap fun (p : Nat × Nat × List UInt8) => (p.2.2.drop (first - p.2.1)).take (first + (like.bytes?.map (·.length)).getD 0 - max first p.2.1)) = bs
  rcases hb : like.ofBytes bs with _ | v
  · trivial
  refine ⟨_, rfl, ?_, (ofBytes_self hb).1, fun y hy => ?_⟩
  · unfold World.cell?
    rw [e1, ho']
  · obtain ⟨p, _, rfl⟩ := List.mem_map.1 hy
    exact ⟨x.block, hx.1, by rw [hx.2]⟩
/-- The fold of a store through a view. -/
def vfold (fr : Nat × Nat) (first : Nat) (bytes : List UInt8) (c : Array Value) (p : Nat × Nat × List UInt8) : Except String (Array Value) :=
  if p.2.1 < first || p.2.1 + p.2.2.length > first + bytes.length then .error "memory seen as another type: a part of a cell written" else if fr.1 ≤ p.1 && p.1 < fr.2 then .error "a write to bytes that a string shares" else
    match c[p.1]? with
    | some old => match old.ofBytes ((bytes.drop (p.2.1 - first)).take p.2.2.length) with
      | some new => .ok (c.setIfInBounds p.1 new)
      | _ => .error "memory seen as another type: a bool from a byte other than 0 or 1"
    | _ => .error "memory seen as another type: no such cell"
theorem viewStore_eq (p : Program) (w : World) (x : Addr) (t : TypeId) (k : Addr) (v : Value) (at' : Bool) : w.viewStore p x t k v at' =
    (if !tight p p.depth t then .error "memory seen as another type: a store through a type with padding" else
      match w.seen p x t k at' with
      | .error e => .error e
      | .ok (c, e, fr, first, like, L) => match v.bytes? with
        | some bytes => if some bytes.length ≠ like.bytes?.map (·.length) then .error "memory seen as another type: a value of another size" else
          match L.foldlM (vfold fr first bytes) c with
          | .error e => .error e
          | .ok c => .ok ({ w with heap := w.heap.setIfInBounds x.block (.cells c e fr) }, L.map fun p => { block := x.block, off := p.1 })
        | _ => .error "memory seen as another type: a value that is no plain data") := by
  unfold World.viewStore
  by_cases ht : (!tight p p.depth t) = true
  · rw [if_pos ht, if_pos ht]; rfl
  rw [if_neg ht, if_neg ht]
  simp only [bind, Except.bind, pure, Except.pure, throw, throwThe, MonadExceptOf.throw]
  rcases w.seen p x t k at' with er | ⟨c, e, fr, first, like, L⟩
  · rfl
  dsimp only
  rcases v.bytes? with _ | bytes
  · rfl
  dsimp only
  by_cases hl : some bytes.length ≠ Option.map (fun (x : List UInt8) => x.length) like.bytes?
  · rw [if_pos hl, if_pos hl]; rfl
  rw [if_neg hl, if_neg hl]
  have e1 : ∀ (f g : Array Value → Nat × Nat × List UInt8 → Except String (Array Value)), (∀ a b, f a b = g a b) → List.foldlM f c L = List.foldlM g c L := fun f g h => by rw [show f = g from funext fun a => funext fun b => h a b]
  rw [e1 _ (vfold fr first bytes) (fun a b => ?_)]
  · rcases List.foldlM (vfold fr first bytes) c L with er | c1 <;> rfl
  · unfold vfold
    split
    · rfl
    · split
      · rfl
      · rfl
theorem viewFold_rel {c c' : Array Value} (hv : VsR σ D c c') (fr : Nat × Nat) (first : Nat) (bytes : List UInt8) :
    ∀ (L : List (Nat × Nat × List UInt8)) (x x' x1 : Array Value), VsR σ D x x' → (∀ (i : Nat) (z : Value), isTA z = true → x[i]? = some z → c[i]? = some z ∧ x'[i]? = c'[i]?) → List.foldlM (vfold fr first bytes) x L = .ok x1 →
      ∃ x1', List.foldlM (vfold fr first bytes) x' L = .ok x1' ∧ VsR σ D x1 x1' ∧ ∀ (i : Nat) (z : Value), isTA z = true → x1[i]? = some z → c[i]? = some z ∧ x1'[i]? = c'[i]?
  | [], x, x', x1, hx, hk, h => by
    simp only [List.foldlM_nil, pure, Except.pure] at h ⊢
    cases h
    exact ⟨x', rfl, hx, hk⟩
  | p :: L, x, x', x1, hx, hk, h => by
    simp only [List.foldlM_cons, bind, Except.bind] at h ⊢
    rcases h1 : vfold fr first bytes x p with er | y
    · rw [h1] at h; cases h
    rw [h1] at h
    dsimp only at h
    have key : ∃ y', vfold fr first bytes x' p = .ok y' ∧ VsR σ D y y' ∧ ∀ (i : Nat) (z : Value), isTA z = true → y[i]? = some z → c[i]? = some z ∧ y'[i]? = c'[i]? := by
      unfold vfold at h1 ⊢
      split at h1
      · cases h1
      rename_i n1
      rw [if_neg n1]
      split at h1
      · cases h1
      rename_i n2
      rw [if_neg n2]
      rcases hi : x[p.1]? with _ | old
      · rw [hi] at h1; cases h1
      obtain ⟨old', ho', hoo⟩ := hx.get hi
      rw [hi] at h1
      rw [ho']
      dsimp only at h1 ⊢
      rcases hb : old.ofBytes ((bytes.drop (p.2.1 - first)).take p.2.2.length) with _ | nw
      · rw [hb] at h1; cases h1
      rw [hb] at h1
      have e2 : old'.ofBytes ((bytes.drop (p.2.1 - first)).take p.2.2.length) = some nw := by
        cases hoo <;> first | exact hb | cases hb
      rw [e2]
      cases h1
      refine ⟨_, rfl, hx.set (ofBytes_self hb).1, fun i z hz hiu => ?_⟩
      rw [Array.getElem?_setIfInBounds] at hiu ⊢
      by_cases e : p.1 = i
      · rw [if_pos e] at hiu
        split at hiu
        · cases hiu; rw [(ofBytes_self (σ := σ) (D := D) hb).2] at hz; cases hz
        · cases hiu
      · rw [if_neg e] at hiu ⊢
        exact hk i z hz hiu
    obtain ⟨y', g1, g2, g3⟩ := key
    rw [g1]
    dsimp only
    exact viewFold_rel hv fr first bytes L y y' x1 g2 g3 h
theorem farStore_rel (hinj : ∀ r r', D r → D r' → σ r = σ r' → r = r') {u w : World} (hw : WR σ D W0 u w) {a a' : Addr} (ha : AR σ D a a') (hc : u.cell? a = none) {v v' : Value} (hv : VR σ D v v') (at' : Bool) :
    match u.farStore (⟨T, F'⟩ : Program) a v at' with
    | .ok (u', L) => ∃ w' L', w.farStore (⟨T, F⟩ : Program) a' v' at' = .ok (w', L') ∧ w.cell? a' = none ∧ WR σ D W0 u' w' ∧ Turned σ D u w u' w' ∧ u'.heap.size = u.heap.size ∧ w'.heap.size = w.heap.size ∧ u'.drawn = u.drawn ∧ w'.drawn = w.drawn ∧ u'.tape = u.tape ∧ w'.tape = w.tape ∧ ∀ x ∈ L', ∃ r, D r ∧ x.block = σ r
    | .error x => badHalt x := by
  have e1 : a'.block = σ a.block := by rw [ha.2]
  unfold World.farStore
  rcases ho : u.heap[a.block]? with _ | o
  · unfold World.noCell
    rw [ho]
    trivial
  rcases hw.is_cells ha.1 ho with ⟨c, e, f, rfl⟩ | ⟨x, x', t, rfl, ho', hx⟩ | ⟨x, x', t, rfl, ho', hx⟩
  · unfold World.noCell
    rw [ho]
    trivial
  rotate_left
  · unfold World.noCell
    rw [ho]
    trivial
  rw [e1, ho']
  dsimp only
  rw [viewStore_eq, viewStore_eq, tight_eq (F' := F') (F := F), depth_eq (F' := F') (F := F)]
  by_cases ht : (!tight (⟨T, F⟩ : Program) (Program.depth (⟨T, F⟩ : Program)) t) = true
  · rw [if_pos ht]; trivial
  rw [if_neg ht, if_neg ht]
  rcases hs : u.seen (⟨T, F'⟩ : Program) x t a at' with er | ⟨c, e, fr, first, like, L⟩
  · trivial
  obtain ⟨c', hc', hs', hcell, hcw0⟩ := seen_rel hw hx t (k := a) (k' := a') ⟨by rw [ha.2], by rw [ha.2]⟩ at' hs
  rw [hs']
  dsimp only
  rcases hb : v.bytes? with _ | bytes
  · trivial
  rw [bytes_same hv hb, hb]
  dsimp only
  by_cases hl : some bytes.length ≠ Option.map (fun (x : List UInt8) => x.length) like.bytes?
  · rw [if_pos hl]; trivial
  rw [if_neg hl, if_neg hl]
  rcases hf : List.foldlM (vfold fr first bytes) c L with er | c1
  · trivial
  obtain ⟨c1', g1, g2, g3⟩ := viewFold_rel hc' fr first bytes L c c' c1 hc' (fun i z hz hi => ⟨hi, rfl⟩) hf
  rw [g1]
  dsimp only
  have ex : x'.block = σ x.block := by rw [hx.2]
  have hlt : x.block < u.heap.size := (Array.getElem?_eq_some_iff.1 hcell).1
  have hcw : w.heap[σ x.block]? = some (.cells c' e fr) := by rw [← ex]; exact hcw0
  have hlt' : σ x.block < w.heap.size := (Array.getElem?_eq_some_iff.1 hcw).1
  refine ⟨_, _, rfl, ?_, ?_, ?_, by simp, by simp, rfl, rfl, rfl, rfl, fun y hy => ?_⟩
  · unfold World.cell?
    rw [e1, ho']
  · refine hw.turn hinj hx.1 (by simp) (by simp) (fun r hr => ?_) (fun r hr => ?_) (fun o ho => ?_) (fun y hy hlo z hz hcy => ?_)
    · dsimp only
      rw [Array.getElem?_setIfInBounds_ne (fun e => hr e.symm)]
    · dsimp only
      rw [ex, Array.getElem?_setIfInBounds_ne (fun e => hr e.symm)]
    · dsimp only at ho ⊢
      rw [Array.getElem?_setIfInBounds_self_of_lt hlt] at ho
      cases ho
      rw [ex, Array.getElem?_setIfInBounds_self_of_lt hlt']
      exact ⟨_, rfl, .cells g2 e fr⟩
    · obtain ⟨yb, yo, ys⟩ := y
      dsimp only at hy
      subst hy
      generalize hW : W0.cell? ⟨x.block, yo, ys⟩ = wv
      unfold World.cell? at hcy ⊢
      dsimp only at hcy ⊢
      rw [Array.getElem?_setIfInBounds_self_of_lt hlt] at hcy
      rw [ex, Array.getElem?_setIfInBounds_self_of_lt hlt']
      dsimp only at hcy ⊢
      by_cases e2 : ys.isSome = true
      · rw [if_pos e2] at hcy; cases hcy
      · rw [if_neg e2] at hcy ⊢
        obtain ⟨h1, h2⟩ := g3 _ z hz hcy
        rw [h2]
        have h3 := hw.orig ⟨x.block, yo, ys⟩ hx.1 hlo z hz (by unfold World.cell?; rw [hcell]; dsimp only; rw [if_neg e2]; exact h1)
        rw [← hW, ← h3]
        unfold World.cell?
        dsimp only
        rw [hcw]
        dsimp only
        rw [if_neg e2]
  · refine ⟨⟨by simp, Nat.le_refl _, rfl⟩, rfl, rfl, rfl, by simp, rfl, fun b hb hr => ?_⟩
    dsimp only
    rw [ex, Array.getElem?_setIfInBounds_ne (fun e => hr x.block hx.1 hlt e)]
  · obtain ⟨p, _, rfl⟩ := List.mem_map.1 hy
    exact ⟨x.block, hx.1, by rw [hx.2]⟩
theorem farLoad_relP {P' P : Program} (hP : P'.toTables = P.toTables) {u w : World} (hw : WR σ D W0 u w) {a a' : Addr} (ha : AR σ D a a') (hc : u.cell? a = none) (at' : Bool) :
    match u.farLoad P' a at' with
    | .ok (v, L) => ∃ L', w.farLoad P a' at' = .ok (v, L') ∧ w.cell? a' = none ∧ VR σ D v v ∧ ∀ x ∈ L', ∃ r, D r ∧ x.block = σ r
    | .error x => badHalt x := by
  obtain ⟨T, F'⟩ := P'
  obtain ⟨T1, F⟩ := P
  obtain rfl : T = T1 := hP
  exact farLoad_rel hw ha hc at'
theorem farStore_relP {P' P : Program} (hP : P'.toTables = P.toTables) (hinj : ∀ r r', D r → D r' → σ r = σ r' → r = r') {u w : World} (hw : WR σ D W0 u w) {a a' : Addr} (ha : AR σ D a a') (hc : u.cell? a = none) {v v' : Value} (hv : VR σ D v v') (at' : Bool) :
    match u.farStore P' a v at' with
    | .ok (u', L) => ∃ w' L', w.farStore P a' v' at' = .ok (w', L') ∧ w.cell? a' = none ∧ WR σ D W0 u' w' ∧ Turned σ D u w u' w' ∧ u'.heap.size = u.heap.size ∧ w'.heap.size = w.heap.size ∧ u'.drawn = u.drawn ∧ w'.drawn = w.drawn ∧ u'.tape = u.tape ∧ w'.tape = w.tape ∧ ∀ x ∈ L', ∃ r, D r ∧ x.block = σ r
    | .error x => badHalt x := by
  obtain ⟨T, F'⟩ := P'
  obtain ⟨T1, F⟩ := P
  obtain rfl : T = T1 := hP
  exact farStore_rel hinj hw ha hc hv at'
end
end Go.Proofs.Ytgfgoflhmikalaa.par

namespace Go.Proofs.Ytgfgoflhmikalaa.par
open Go
set_option linter.unusedVariables false
set_option linter.unusedSimpArgs false
section
variable (σ : Nat → Nat) (D : Nat → Prop) (W0 : World)
/-- What the lone run's answer and the crowd's must be like. -/
def RunR {α β : Type} (R : α → β → Prop) (u w : World) (es : Array Event) : Result α → Result β × Array Event → Prop
  | .ok a u', (.ok b w', es') => R a b ∧ WR σ D W0 u' w' ∧ Turned σ D u w u' w' ∧ ∃ l : Array Event, es' = es ++ l ∧ ∀ e ∈ l, EvOk σ D e
  | .halt (.panic v) u', (.halt (.panic v') w', es') => VR σ D v v' ∧ WR σ D W0 u' w' ∧ Turned σ D u w u' w' ∧ ∃ l : Array Event, es' = es ++ l ∧ ∀ e ∈ l, EvOk σ D e
  | .halt h _, _ => badHalt h
  | _, _ => False
end
theorem Dead.run {α : Type} {s : Sem α} (h : Dead s) (p : Program) : ∀ (w : World) (es : Array Event), ∃ h' w', (s.runT p w es).1 = .halt h' w' ∧ badHalt h' := by
  induction h with
  | halt hb => intro w es; exact ⟨_, _, rfl, hb⟩
  | shape _ ih => intro w es; exact ih _ _ _
  | frozen _ ih => intro w es; exact ih _ _ _
  | choose _ ih =>
    intro w es
    simp only [Sem.runT]
    split
    · exact ih _ _ _
    · exact ih _ _ _
  | program _ ih => intro w es; exact ih _ _ _
  | mark _ ih => intro w es; exact ih _ _
section
variable {σ : Nat → Nat} {D : Nat → Prop} {W0 : World}
theorem RunR.then {α β : Type} {R : α → β → Prop} {u w u1 w1 : World} {es es1 : Array Event} {r : Result α} {r' : Result β × Array Event} (h : RunR σ D W0 R u1 w1 es1 r r') (ht : Turned σ D u w u1 w1) (hn : ∀ r, u.heap.size ≤ r → r < u1.heap.size → w.heap.size ≤ σ r)
    {l : Array Event} (he : es1 = es ++ l) (hl : ∀ e ∈ l, EvOk σ D e) : RunR σ D W0 R u w es r r' := by
  subst he
  have key : ∀ {u' w' : World} {es' : Array Event}, (∃ l' : Array Event, es' = es ++ l ++ l' ∧ ∀ e ∈ l', EvOk σ D e) → ∃ l' : Array Event, es' = es ++ l' ∧ ∀ e ∈ l', EvOk σ D e := by
    rintro u' w' es' ⟨l', rfl, h'⟩
    exact ⟨l ++ l', by rw [Array.append_assoc], fun e he => (Array.mem_append.1 he).elim (hl e) (h' e)⟩
  rcases r with ⟨a, u'⟩ | ⟨h0, u'⟩
  · obtain ⟨r', es'⟩ := r'
    rcases r' with ⟨b, w'⟩ | ⟨h1, w'⟩
    · obtain ⟨h1, h2, h3, h4⟩ := h
      exact ⟨h1, h2, ht.trans h3 hn, key (u' := u') (w' := w') h4⟩
    · exact h
  · obtain ⟨r', es'⟩ := r'
    cases h0 <;> first | trivial | skip
    rcases r' with ⟨b, w'⟩ | ⟨h1, w'⟩
    · exact h
    · cases h1 <;> first | exact h | skip
      obtain ⟨h1, h2, h3, h4⟩ := h
      exact ⟨h1, h2, ht.trans h3 hn, key (u' := u') (w' := w') h4⟩
theorem bad_any {α β : Type} {R : α → β → Prop} {u w : World} {es : Array Event} {h : Halt} {u' : World} (hb : badHalt h) (r' : Result β × Array Event) : RunR σ D W0 R u w es (.halt h u' : Result α) r' := by
  cases h <;> first | exact hb | (exact absurd hb id)
theorem turned_set {u w : World} {a a' : Addr} (ha : AR σ D a a') (hlt : a.block < u.heap.size) (v v' : Value) : Turned σ D u w (u.setCell a v) (w.setCell a' v') := by
  obtain ⟨hd, rfl⟩ := ha
  refine ⟨setCell_grows _ _ _, rfl, rfl, rfl, by simp [World.setCell], rfl, fun b hb hr => ?_⟩
  by_cases e : b = σ a.block
  · subst e
    exact absurd rfl (hr _ hd hlt)
  · exact heap_setCell _ _ _ _ e
theorem turned_freeze {u w : World} (h : WR σ D W0 u w) {a a' : Addr} (ha : AR σ D a a') (n : Nat) : Turned σ D u w (u.freeze a n) (w.freeze a' n) := by
  obtain ⟨hd, rfl⟩ := ha
  have hsz : ∀ (w : World) (a : Addr), (w.freeze a n).heap.size = w.heap.size := fun w a => by unfold World.freeze; split <;> simp
  have hs : ∀ (w : World) (a : Addr), (w.freeze a n).tape = w.tape ∧ (w.freeze a n).os = w.os ∧ (w.freeze a n).output = w.output ∧ (w.freeze a n).drawn = w.drawn := fun w a => by unfold World.freeze; split <;> exact ⟨rfl, rfl, rfl, rfl⟩
  refine ⟨freeze_grows _ _ _, (hs _ _).1, (hs _ _).2.1, (hs _ _).2.2.1, by rw [hsz, hsz], by rw [(hs _ _).2.2.2, (hs _ _).2.2.2], fun b hb hr => ?_⟩
  by_cases e : b = σ a.block
  · subst e
    by_cases hlt : a.block < u.heap.size
    · exact absurd rfl (hr _ hd hlt)
    · have := h.fut _ hd (by omega)
      omega
  · exact heap_freeze _ _ _ _ e
theorem turned_push (u w : World) (o o' : Obj) : Turned σ D u w { u with heap := u.heap.push o } { w with heap := w.heap.push o' } := by
  refine ⟨⟨by simp, Nat.le_refl _, rfl⟩, rfl, rfl, rfl, by simp; omega, rfl, fun b hb hr => ?_⟩
  dsimp only
  rw [Array.getElem?_push, if_neg (by omega)]
theorem turned_drew (u w : World) : Turned σ D u w { u with drawn := u.drawn + 1 } { w with drawn := w.drawn + 1 } :=
  ⟨⟨Nat.le_refl _, Nat.le_succ _, rfl⟩, rfl, rfl, rfl, rfl, by dsimp only; omega, fun _ _ _ => rfl⟩
theorem block_lt {u : World} {a : Addr} {v : Value} (h : u.cell? a = some v) : a.block < u.heap.size := by
  unfold World.cell? at h
  rcases Nat.lt_or_ge a.block u.heap.size with hlt | hge
  · exact hlt
  · rw [none_of_le hge] at h; cases h
theorem mem_push {α : Type} {x e : α} (h : e ∈ (#[x] : Array α)) : e = x := by simpa using h
/-- What a tree does to a lone world, its fellow does to the crowd's: as long as the tape and the numbers of new blocks fit. -/
theorem SRel.run {α β : Type} {P' P : Program} {R : α → β → Prop} (hP : P'.toTables = P.toTables) (hinj : ∀ r r', D r → D r' → σ r = σ r' → r = r') {s : Sem α} {s' : Sem β} (h : SRel σ D P' P R s s') : ∀ (u w : World) (es0 es : Array Event), WR σ D W0 u w →
    (∀ i, w.drawn + i < (resW (s'.runT P w es).1).drawn → u.tape (u.drawn + i) = w.tape (w.drawn + i)) →
    (∀ i, w.heap.size + i < (resW (s'.runT P w es).1).heap.size → D (u.heap.size + i) ∧ σ (u.heap.size + i) = w.heap.size + i) →
    RunR σ D W0 R u w es (s.runT P' u es0).1 (s'.runT P w es) := by
  induction h with
  | pure h => intro u w es0 es hw _ _; exact ⟨h, hw, Turned.refl u w, #[], by simp, fun e he => by simp at he⟩
  | @load m a a' k k' ha hk ih =>
    intro u w es0 es hw hT hS
    simp only [Sem.runT] at hT hS ⊢
    rcases hc : u.cell? a with _ | v
    · have hfar := farLoad_relP hP hw ha hc (m == .atomic)
      revert hfar
      rcases hx : u.farLoad P' a (m == .atomic) with er | ⟨v, L⟩
      · intro hb
        exact bad_any hb _
      · rintro ⟨L', h1, h2, hv, h3⟩
        simp only [h1, h2] at hT hS ⊢
        exact (ih v v hv u w _ _ hw hT hS).then (Turned.refl u w) (fun r h1 h2 => by omega) (l := L'.toArray.map (⟨.cell ·, false, m == .atomic⟩)) rfl (fun e he => by
          obtain ⟨x, hx, rfl⟩ := Array.mem_map.1 he
          exact h3 x (by simpa using hx))
    · obtain ⟨v', hc', hv⟩ := hw.cell ha hc
      simp only [hc'] at hT hS ⊢
      exact (ih v v' hv u w _ _ hw hT hS).then (Turned.refl u w) (fun r h1 h2 => by omega) (l := #[⟨.cell a', false, m == .atomic⟩]) (by simp) (fun e he => by rw [mem_push he]; exact ⟨a.block, ha.1, by rw [ha.2]⟩)
  | @store m a a' v v' k k' ha hv hk ih =>
    intro u w es0 es hw hT hS
    by_cases hn : (∃ c, v = .agg c) ∨ (∃ c, v = .tuple c)
    · rcases hn with ⟨c, rfl⟩ | ⟨c, rfl⟩ <;> exact bad_any (h := .stuck _) trivial _
    · have hn1 : isTA v = false := by cases v <;> first | rfl | exact absurd (.inl ⟨_, rfl⟩) hn | exact absurd (.inr ⟨_, rfl⟩) hn
      have e1 : (Sem.store m a v k).runT P' u es0 = (match u.cell? a with
        | some _ => if u.frozen? a then (.halt (.unsupported (.unsafePointer "a write to bytes that a string shares")) u, es0) else k.runT P' (u.setCell a v) (es0.push ⟨.cell a, true, m == .atomic⟩)
        | none => match u.farStore P' a v (m == .atomic) with
          | .ok (w, touched) => k.runT P' w (es0 ++ touched.toArray.map (⟨.cell ·, true, m == .atomic⟩))
          | .error h => (.halt h u, es0)) := by
        cases v <;> first | rfl | exact absurd (.inl ⟨_, rfl⟩) hn | exact absurd (.inr ⟨_, rfl⟩) hn
      have e2 : (Sem.store m a' v' k').runT P w es = (match w.cell? a' with
        | some _ => if w.frozen? a' then (.halt (.unsupported (.unsafePointer "a write to bytes that a string shares")) w, es) else k'.runT P (w.setCell a' v') (es.push ⟨.cell a', true, m == .atomic⟩)
        | none => match w.farStore P a' v' (m == .atomic) with
          | .ok (w, touched) => k'.runT P w (es ++ touched.toArray.map (⟨.cell ·, true, m == .atomic⟩))
          | .error h => (.halt h w, es)) := by
        cases hv <;> first | rfl | exact absurd (.inl ⟨_, rfl⟩) hn | exact absurd (.inr ⟨_, rfl⟩) hn
      rw [e2] at hT hS
      rw [e1, e2]
      rcases hc : u.cell? a with _ | v0
      · have hfar := farStore_relP hP hinj hw ha hc hv (m == .atomic)
        revert hfar
        rcases hx : u.farStore P' a v (m == .atomic) with er | ⟨u1, L⟩
        · intro hb
          exact bad_any hb _
        · rintro ⟨w1, L', h1, h2, h3, h4, h5, h6, h7, h8, h9, h10, h11⟩
          simp only [h1, h2] at hT hS ⊢
          refine (ih u1 w1 _ _ h3 (fun i hi => ?_) (fun i hi => ?_)).then h4 (fun r h1 h2 => by omega) (l := L'.toArray.map (⟨.cell ·, true, m == .atomic⟩)) rfl (fun e he => by
            obtain ⟨x, hx, rfl⟩ := Array.mem_map.1 he
            exact h11 x (by simpa using hx))
          · rw [h7, h9, h10, h8]
            rw [h8] at hi
            exact hT i hi
          · rw [h5, h6]
            rw [h6] at hi
            exact hS i hi
      · obtain ⟨v1, hc', _⟩ := hw.cell ha hc
        have hf := hw.frozen ha
        simp only [hc', hf] at hT hS ⊢
        by_cases hfz : u.frozen? a = true
        · simp only [hfz, if_true]
          exact bad_any (h := .unsupported (.unsafePointer _)) trivial _
        · simp only [if_neg hfz] at hT hS ⊢
          refine (ih (u.setCell a v) (w.setCell a' v') _ _ (hw.set hinj ha hv hn1) hT (fun i hi => ?_)).then (turned_set ha (block_lt hc) v v') (fun r h1 h2 => ?_) (l := #[⟨.cell a', true, m == .atomic⟩]) (by simp) (fun e he => by rw [mem_push he]; exact ⟨a.block, ha.1, by rw [ha.2]⟩)
          · have e3 : (u.setCell a v).heap.size = u.heap.size := by simp [World.setCell]
            have e4 : (w.setCell a' v').heap.size = w.heap.size := by simp [World.setCell]
            rw [e4] at hi
            rw [e3, e4]
            exact hS i hi
          · have e3 : (u.setCell a v).heap.size = u.heap.size := by simp [World.setCell]
            omega
  | @new o o' k k' ho hk ih =>
    intro u w es0 es hw hT hS
    simp only [Sem.runT] at hT hS ⊢
    have hg := (runT_grows P (k' w.heap.size) { w with heap := w.heap.push o' } es).size
    simp only [Array.size_push] at hg
    obtain ⟨hd, hs⟩ := hS 0 (by omega)
    simp only [Nat.add_zero] at hd hs
    have hih := ih u.heap.size hd { u with heap := u.heap.push o } { w with heap := w.heap.push o' } es0 es (hw.push hinj ho hd hs) (by rw [hs]; exact hT) (fun i hi => by
      rw [hs] at hi
      simp only [Array.size_push] at hi ⊢
      have := hS (i + 1) (by omega)
      rw [show u.heap.size + 1 + i = u.heap.size + (i + 1) by omega, show w.heap.size + 1 + i = w.heap.size + (i + 1) by omega]
      exact this)
    rw [hs] at hih
    exact hih.then (turned_push u w o o') (fun r h1 h2 => by
      simp only [Array.size_push] at h2
      obtain rfl : r = u.heap.size := by omega
      omega) (l := #[]) (by simp) (fun e he => by simp at he)
  | @shape r k k' hd hk ih =>
    intro u w es0 es hw hT hS
    simp only [Sem.runT] at hT hS ⊢
    rw [hw.shape hd] at hT hS ⊢
    exact ih _ u w es0 es hw hT hS
  | @freeze a a' n k k' ha hk ih =>
    intro u w es0 es hw hT hS
    simp only [Sem.runT] at hT hS ⊢
    have hsz : ∀ (w : World) (a : Addr), (w.freeze a n).heap.size = w.heap.size := fun w a => by unfold World.freeze; split <;> simp
    have hdr : ∀ (w : World) (a : Addr), (w.freeze a n).drawn = w.drawn ∧ (w.freeze a n).tape = w.tape := fun w a => by unfold World.freeze; split <;> exact ⟨rfl, rfl⟩
    refine (ih (u.freeze a n) (w.freeze a' n) es0 es (hw.freeze hinj ha n) (fun i hi => ?_) (fun i hi => ?_)).then (turned_freeze hw ha n) (fun r h1 h2 => by rw [hsz] at h2; omega) (l := #[]) (by simp) (fun e he => by simp at he)
    · rw [(hdr w a').1] at hi
      rw [(hdr u a).1, (hdr u a).2, (hdr w a').1, (hdr w a').2]
      exact hT i hi
    · rw [hsz] at hi
      rw [hsz, hsz]
      exact hS i hi
  | @frozen a a' k k' ha hk ih =>
    intro u w es0 es hw hT hS
    simp only [Sem.runT] at hT hS ⊢
    rw [hw.frozen ha] at hT hS ⊢
    exact ih _ u w es0 es hw hT hS
  | @getObj r k k' hd hk ih =>
    intro u w es0 es hw hT hS
    simp only [Sem.runT] at hT hS ⊢
    rcases ho : u.heap[r]? with _ | o
    · exact bad_any (h := .stuck _) trivial _
    · rcases hw.is_cells hd ho with ⟨c, e, f, rfl⟩ | ⟨x, x', t, rfl, ho', hx⟩ | ⟨x, x', t, rfl, ho', hx⟩
      · exact bad_any (h := .stuck _) trivial _
      rotate_left
      · simp only [ho'] at hT hS ⊢
        exact (ih _ _ (.number hx t) u w _ _ hw hT hS).then (Turned.refl u w) (fun r h1 h2 => by omega) (l := #[⟨.obj (σ r), false, false⟩]) (by simp [Obj.isChan]) (fun e he => by rw [mem_push he]; exact ⟨r, hd, rfl⟩)
      · simp only [ho'] at hT hS ⊢
        exact (ih _ _ (.view hx t) u w _ _ hw hT hS).then (Turned.refl u w) (fun r h1 h2 => by omega) (l := #[⟨.obj (σ r), false, false⟩]) (by simp [Obj.isChan]) (fun e he => by rw [mem_push he]; exact ⟨r, hd, rfl⟩)
  | @choose q k k' hk ih =>
    intro u w es0 es hw hT hS
    simp only [Sem.runT] at hT hS ⊢
    by_cases hq : q.forced = true
    · simp only [hq, if_true] at hT hS ⊢
      exact ih 0 u w es0 es hw hT hS
    · simp only [if_neg hq] at hT hS ⊢
      have hg := (runT_grows P (k' (q.cut (w.tape w.drawn q))) { w with drawn := w.drawn + 1 } es).drawn
      have h0 : u.tape u.drawn = w.tape w.drawn := hT 0 (by simp only [Nat.add_zero]; exact hg)
      rw [h0]
      exact (ih _ { u with drawn := u.drawn + 1 } { w with drawn := w.drawn + 1 } es0 es ⟨hw.obj, hw.fut, hw.low, hw.orig⟩ (fun i hi => by
        have := hT (i + 1) (by dsimp only at hi; rw [show w.drawn + (i + 1) = w.drawn + 1 + i by omega]; exact hi)
        dsimp only
        rw [show u.drawn + 1 + i = u.drawn + (i + 1) by omega, show w.drawn + 1 + i = w.drawn + (i + 1) by omega]
        exact this) hS).then (turned_drew u w) (fun r h1 h2 => by dsimp only at h2; omega) (l := #[]) (by simp) (fun e he => by simp at he)
  | program hk ih => intro u w es0 es hw hT hS; exact ih u w es0 es hw hT hS
  | progl hk ih => intro u w es0 es hw hT hS; exact ih u w es0 es hw hT hS
  | @mark m m' k k' hm hk ih =>
    intro u w es0 es hw hT hS
    exact (ih u w _ _ hw hT hS).then (Turned.refl u w) (fun r h1 h2 => by omega) (l := #[⟨.mark m', false, true⟩]) (by simp) (fun e he => by rw [mem_push he]; exact ⟨m, hm⟩)
  | panic h => intro u w es0 es hw _ _; exact ⟨h, hw, Turned.refl u w, #[], by simp, fun e he => by simp at he⟩
  | dead h =>
    intro u w es0 es hw _ _
    obtain ⟨h', w', e, hb⟩ := h.run P' u es0
    rw [e]
    exact bad_any hb _
end
end Go.Proofs.Ytgfgoflhmikalaa.par

namespace Go.Proofs.Ytgfgoflhmikalaa.par
open Go
set_option linter.unusedVariables false
set_option linter.unusedSimpArgs false
/-- Values without an address: they are related to themselves. -/
def atomB : Value → Bool
  | .bool _ | .int .. | .float .. | .complex .. | .string _ | .pointer none | .slice none .. | .map none | .chan none | .nilFunc | .nilIface => true
  | .tuple vs => vs.isEmpty
  | .func (.func k) f c => !nd k && (f.isEmpty && c.isEmpty)
  | _ => false
def plainB : Value → Bool
  | .agg cs => cs.all atomB
  | .tuple cs => cs.all atomB
  | v => atomB v
section
variable {σ : Nat → Nat} {D : Nat → Prop}
theorem atom_self {v : Value} (h : atomB v = true) : VR σ D v v := by
  cases v with
  | bool b => exact .bool b
  | int k n => exact .int k n
  | float k n => exact .float k n
  | complex k n m => exact .complex k n m
  | string s => exact .string s
  | pointer a => cases a with
    | none => exact .nilp
    | some a => simp [atomB] at h
  | slice a l c => cases a with
    | none => exact .nils l c
    | some a => simp [atomB] at h
  | map r => cases r with
    | none => exact .nilm
    | some a => simp [atomB] at h
  | chan r => cases r with
    | none => exact .nilc
    | some a => simp [atomB] at h
  | func fn f c => cases fn with
    | func k =>
      simp [atomB] at h
      obtain ⟨h0, rfl, rfl⟩ := h
      exact .func k rfl (fun i x y hx => by simp at hx) rfl (fun i x y hx => by simp at hx) h0
    | _ => simp [atomB] at h
  | nilFunc => exact .nilf
  | iface t v => simp [atomB] at h
  | nilIface => exact .nili
  | agg cs => simp [atomB] at h
  | tuple vs =>
    simp [atomB] at h
    subst h
    exact .undef _ rfl
theorem plain_self {v : Value} (h : plainB v = true) : VR σ D v v := by
  unfold plainB at h
  split at h
  · refine .agg rfl (fun i x y hx hy => ?_)
    rw [hx] at hy
    cases hy
    rw [Array.all_eq_true_iff_forall_mem] at h
    exact atom_self (h x (Array.mem_of_getElem? hx))
  · refine .tuple rfl (fun i x y hx hy => ?_)
    rw [hx] at hy
    cases hy
    rw [Array.all_eq_true_iff_forall_mem] at h
    exact atom_self (h x (Array.mem_of_getElem? hx))
  · exact atom_self h
theorem atoms_self {cs : Array Value} (h : ∀ x ∈ cs, atomB x = true) : VsR σ D cs cs := ⟨rfl, fun i x y hx hy => by rw [hx] at hy; cases hy; exact atom_self (h x (Array.mem_of_getElem? hx))⟩
theorem AR.add {a a' : Addr} (h : AR σ D a a') (n : Nat) : AR σ D (a.add n) (a'.add n) := by
  obtain ⟨hd, rfl⟩ := h
  unfold Addr.add
  split
  · exact ⟨hd, rfl⟩
  · exact ⟨hd, rfl⟩
end
section
variable {σ : Nat → Nat} {D : Nat → Prop} {T : Tables} {F' F : Array Func}
theorem sr_stuck {α β : Type} {R : α → β → Prop} {w : String} {s : Sem β} : SRel σ D (⟨T, F'⟩ : Program) (⟨T, F⟩ : Program) R (stuck w : Sem α) s := .dead (.halt trivial)
theorem sr_uns {α β : Type} {R : α → β → Prop} {w : Unsupported} {s : Sem β} (h : badHalt (.unsupported w) := by trivial) : SRel σ D (⟨T, F'⟩ : Program) (⟨T, F⟩ : Program) R (unsupported w : Sem α) s := .dead (.halt h)
theorem sr_stuckb {α β γ : Type} {R : α → β → Prop} {w : String} {f : γ → Sem α} {s : Sem β} : SRel σ D (⟨T, F'⟩ : Program) (⟨T, F⟩ : Program) R ((stuck w : Sem γ) >>= f) s := .dead (.halt trivial)
theorem sr_unsb {α β γ : Type} {R : α → β → Prop} {w : Unsupported} {f : γ → Sem α} {s : Sem β} (h : badHalt (.unsupported w) := by trivial) : SRel σ D (⟨T, F'⟩ : Program) (⟨T, F⟩ : Program) R ((unsupported w : Sem γ) >>= f) s := .dead (.halt h)
theorem sr_pure {α β : Type} {R : α → β → Prop} {a : α} {b : β} (h : R a b) : SRel σ D (⟨T, F'⟩ : Program) (⟨T, F⟩ : Program) R (Pure.pure a) (Pure.pure b) := .pure h
theorem sr_eq {α : Type} (s : Sem α) (h : SRel σ D (⟨T, F'⟩ : Program) (⟨T, F⟩ : Program) Eq s s) : SRel σ D (⟨T, F'⟩ : Program) (⟨T, F⟩ : Program) Eq s s := h
theorem sr_program {α β : Type} {R : α → β → Prop} {k : Program → Sem α} {k' : Program → Sem β} (h : SRel σ D (⟨T, F'⟩ : Program) (⟨T, F⟩ : Program) R (k ⟨T, F'⟩) (k' ⟨T, F⟩)) : SRel σ D (⟨T, F'⟩ : Program) (⟨T, F⟩ : Program) R (program >>= k) (program >>= k') := .program h
theorem sr_und {α β : Type} {R : α → β → Prop} (t : TypeId) {f : TypeDesc → Sem α} {f' : TypeDesc → Sem β} (h : ∀ d, SRel σ D (⟨T, F'⟩ : Program) (⟨T, F⟩ : Program) R (f d) (f' d)) : SRel σ D (⟨T, F'⟩ : Program) (⟨T, F⟩ : Program) R (underlying t >>= f) (underlying t >>= f') := by
  have h0 : SRel σ D (⟨T, F'⟩ : Program) (⟨T, F⟩ : Program) Eq (underlying t) (underlying t) := by
    unfold underlying
    refine sr_program ?_
    have e : Program.underlying (⟨T, F'⟩ : Program) t = Program.underlying (⟨T, F⟩ : Program) t := rfl
    rw [e]
    cases Program.underlying (⟨T, F⟩ : Program) t with
    | some d => exact sr_pure rfl
    | none => exact sr_stuck
  exact h0.bind (fun a b e => e ▸ h a)
theorem sr_info {α β : Type} {R : α → β → Prop} (t : TypeId) {f : TypeInfo → Sem α} {f' : TypeInfo → Sem β} (h : ∀ i, T.info? t = some i → SRel σ D (⟨T, F'⟩ : Program) (⟨T, F⟩ : Program) R (f i) (f' i)) : SRel σ D (⟨T, F'⟩ : Program) (⟨T, F⟩ : Program) R (typeInfo t >>= f) (typeInfo t >>= f') := by
  have h0 : SRel σ D (⟨T, F'⟩ : Program) (⟨T, F⟩ : Program) (fun a b => a = b ∧ T.info? t = some a) (typeInfo t) (typeInfo t) := by
    unfold typeInfo
    refine sr_program ?_
    show SRel σ D (⟨T, F'⟩ : Program) (⟨T, F⟩ : Program) _ (match T.info? t with | some i => Pure.pure i | none => stuck "no such type") (match T.info? t with | some i => Pure.pure i | none => stuck "no such type")
    cases hi : T.info? t with
    | some i => exact sr_pure ⟨rfl, rfl⟩
    | none => exact sr_stuck
  exact h0.bind (fun a b ⟨e, hi⟩ => e ▸ h a hi)
theorem sr_sizeOf {α β : Type} {R : α → β → Prop} (t : TypeId) {f : Nat → Sem α} {f' : Nat → Sem β} (h : ∀ i, SRel σ D (⟨T, F'⟩ : Program) (⟨T, F⟩ : Program) R (f i) (f' i)) : SRel σ D (⟨T, F'⟩ : Program) (⟨T, F⟩ : Program) R (sizeOf t >>= f) (sizeOf t >>= f') := by
  have h0 : SRel σ D (⟨T, F'⟩ : Program) (⟨T, F⟩ : Program) Eq (sizeOf t) (sizeOf t) := sr_info t (fun i _ => sr_pure rfl)
  exact h0.bind (fun a b e => e ▸ h a)
theorem sr_isAgg {α β : Type} {R : α → β → Prop} (t : TypeId) {f : Bool → Sem α} {f' : Bool → Sem β} (h : ∀ i, SRel σ D (⟨T, F'⟩ : Program) (⟨T, F⟩ : Program) R (f i) (f' i)) : SRel σ D (⟨T, F'⟩ : Program) (⟨T, F⟩ : Program) R (isAgg t >>= f) (isAgg t >>= f') := by
  have h0 : SRel σ D (⟨T, F'⟩ : Program) (⟨T, F⟩ : Program) Eq (isAgg t) (isAgg t) := sr_und t (fun d => by cases d <;> exact sr_pure rfl)
  exact h0.bind (fun a b e => e ▸ h a)
theorem sr_load (m : Mode) {a a' : Addr} (h : AR σ D a a') : SRel σ D (⟨T, F'⟩ : Program) (⟨T, F⟩ : Program) (VR σ D) (load a m) (load a' m) := .load h (fun v v' hv => .pure hv)
theorem sr_store (m : Mode) {a a' : Addr} (h : AR σ D a a') {v v' : Value} (hv : VR σ D v v') : SRel σ D (⟨T, F'⟩ : Program) (⟨T, F⟩ : Program) (fun _ _ => True) (store a v m) (store a' v' m) := .store h hv (.pure trivial)
theorem sr_loadCells {a a' : Addr} (h : AR σ D a a') : ∀ (n i : Nat) (c c' : Array Value), VsR σ D c c' → SRel σ D (⟨T, F'⟩ : Program) (⟨T, F⟩ : Program) (VsR σ D) (loadCellsFrom a i n c) (loadCellsFrom a' i n c')
  | 0, i, c, c', hc => sr_pure hc
  | n + 1, i, c, c', hc => by
    unfold loadCellsFrom
    exact (sr_load .plain (h.add i)).bind (fun v v' hv => sr_loadCells h n (i + 1) _ _ (hc.push hv))
theorem sr_storeCells {a a' : Addr} (h : AR σ D a a') : ∀ (vs vs' : List Value) (i : Nat), vs.length = vs'.length → (∀ (j : Nat) (x y : Value), vs[j]? = some x → vs'[j]? = some y → VR σ D x y) → SRel σ D (⟨T, F'⟩ : Program) (⟨T, F⟩ : Program) (fun _ _ => True) (storeCells a vs i) (storeCells a' vs' i)
  | [], [], i, _, _ => by unfold storeCells; exact sr_pure trivial
  | v :: vs, v' :: vs', i, hl, hv => by
    unfold storeCells
    exact (sr_store .plain (h.add i) (hv 0 v v' rfl rfl)).bind (fun _ _ _ => sr_storeCells h vs vs' (i + 1) (by simpa using hl) (fun j x y hx hy => hv (j + 1) x y (by simpa using hx) (by simpa using hy)))
  | [], v' :: vs', i, hl, _ => by simp at hl
  | v :: vs, [], i, hl, _ => by simp at hl
theorem sr_loadVar (t : TypeId) {a a' : Addr} (h : AR σ D a a') : SRel σ D (⟨T, F'⟩ : Program) (⟨T, F⟩ : Program) (VR σ D) (loadVar t a) (loadVar t a') := by
  unfold loadVar
  refine sr_isAgg t (fun b => ?_)
  cases b
  · exact sr_load .plain h
  · refine sr_sizeOf t (fun n => ?_)
    refine (sr_loadCells h n 0 #[] #[] ⟨rfl, fun i x y hx => by simp at hx⟩).bind (fun c c' hc => sr_pure (.agg hc.1 hc.2))
theorem cells_rel {v v' : Value} (h : VR σ D v v') : VsR σ D v.cells v'.cells := by
  have one : ∀ {v v' : Value}, VR σ D v v' → VsR σ D #[v] #[v'] := fun {v v'} h => ⟨rfl, fun i x y hx hy => by
    rcases i with _ | i
    · simp at hx hy; subst hx hy; exact h
    · simp at hx⟩
  cases h with
  | agg h1 h2 => exact ⟨h1, h2⟩
  | undef v hn =>
    have e : v'.cells = #[v'] := by cases v' <;> first | rfl | cases hn
    rw [e]
    exact one (.undef v' hn)
  | ptr h => exact one (.ptr h)
  | slice h l c => exact one (.slice h l c)
  | map h => exact one (.map h)
  | func fn h1 h2 h3 h4 h0 => exact one (.func fn h1 h2 h3 h4 h0)
  | weird m f c => exact one (.weird m f c)
  | iface t h => exact one (.iface t h)
  | tuple h1 h2 => exact one (.tuple h1 h2)
  | bool b => exact one (.bool b)
  | int k n => exact one (.int k n)
  | float k n => exact one (.float k n)
  | complex k n m => exact one (.complex k n m)
  | string s => exact one (.string s)
  | nilp => exact one .nilp
  | nils l c => exact one (.nils l c)
  | nilm => exact one .nilm
  | nilc => exact one .nilc
  | nilf => exact one .nilf
  | nili => exact one .nili
end
end Go.Proofs.Ytgfgoflhmikalaa.par
