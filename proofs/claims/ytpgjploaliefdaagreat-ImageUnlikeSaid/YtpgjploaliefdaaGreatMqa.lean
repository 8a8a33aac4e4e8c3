/- Many cells of one block that are stored: what is kept. No conditions. -/
import Derived.Test.YtpgjploaliefdaaGreatMg
namespace Go.Proofs.YtpgjploaliefdaaGreat.rh
open Go Go.RowKit gr lx
set_option linter.unusedVariables false
set_option linter.unusedSimpArgs false
def setC (W : World) (b : Nat) : List (Nat × Value) → World
 | [] => W
 | q :: L => setC (W.setCell ⟨b, q.1, none⟩ q.2) b L
def setA (cs : Array Value) : List (Nat × Value) → Array Value
 | [] => cs
 | q :: L => setA (cs.setIfInBounds q.1 q.2) L
theorem Blk.setC : ∀ {L : List (Nat × Value)} {W : World} {b : Nat} {cs : Array Value} {T : TypeId}, Blk W b cs T → Blk (rh.setC W b L) b (setA cs L) T
 | [], _, _, _, _, h => h
 | q :: L, _, _, _, _, h => Blk.setC (L := L) (h.set q.1 q.2)
theorem Blk.offC : ∀ {L : List (Nat × Value)} {W : World} {n b : Nat} {cs : Array Value} {T : TypeId}, Blk W n cs T → n ≠ b → Blk (rh.setC W b L) n cs T
 | [], _, _, _, _, _, h, _ => h
 | q :: L, _, _, _, _, _, h, e => Blk.offC (L := L) (h.other (p := ⟨_, q.1, none⟩) e q.2) e
theorem OwnR.offC {α : Type} {k : Nat} {en : α → List Value} {T : TypeId} {B : Nat} {v : Value} {zs : List α} : ∀ {L : List (Nat × Value)} {W : World} {b : Nat}, OwnR T k en W B v zs → b < B → OwnR T k en (rh.setC W b L) B v zs
 | [], _, _, h, _ => h
 | q :: L, _, _, h, e => OwnR.offC (L := L) (OwnR.setLow h (p := ⟨_, q.1, none⟩) e q.2) e
theorem low_setC {N : Nat} {a : World} : ∀ {L : List (Nat × Value)} {W : World} {b : Nat}, Below N a W → N ≤ b → Below N a (setC W b L)
 | [], _, _, h, _ => h
 | q :: L, _, _, h, e => low_setC (L := L) (low_set h (p := ⟨_, q.1, none⟩) e q.2) e
theorem Safe.setC {g : Nat} {r : Option Nat} {P : World → Prop} : ∀ {L : List (Nat × Value)} {W : World} {b : Nat}, Safe W g r P → b ≤ g → Safe (rh.setC W b L) g r P
 | [], _, _, h, _ => h
 | q :: L, _, _, h, e => Safe.setC (L := L) (Safe.set h (p := ⟨_, q.1, none⟩) e q.2) e
theorem cell_setC {p : Addr} {v : Value} : ∀ {L : List (Nat × Value)} {W : World} {b : Nat}, W.cell? p = some v → p.block ≠ b → (setC W b L).cell? p = some v
 | [], _, _, h, _ => h
 | q :: L, W, b, h, e => cell_setC (L := L) ((World.cell?_setCell_other _ _ _ _ (fun x => e (congrArg Addr.block x).symm)).trans h) e
end Go.Proofs.YtpgjploaliefdaaGreat.rh
