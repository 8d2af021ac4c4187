/- A region that draws its order, whose operations only read and whose callees may lay blocks of their own: walked once, over the class of the worlds in which all that was there is as it was. -/
import Derived.Test.YtmcgaaihdjpdgaaGreatDoorBase
import Derived.BigQuiet
namespace Go.Proofs.YtmcgaaihdjpdgaaGreatDoor
open Go.RowKit
structure Cls (w : World) where
  n : World
  h : Below w.heap.size w n
instance instCls (w : World) : Inhabited (Cls w) := ⟨⟨w, Below.refl _ _⟩⟩
theorem wp_region_cls {P : Program} {id : Nat} {Q : Exit → Act → World → Prop} {a : Act} {w : World} {l : List Oper} (hm : P.follows .mixedOrders = true) (hB : Region.lexB .any l.toArray = true)
    (h : wpQuiet P l.toArray (fun w' => ∃ p : Cls w, w' = p.n) (fun a' => ∀ w', (∃ p : Cls w, w' = p.n) → Q .normal a' w') l a) : (Code.region id l.toArray true).wp P Q a w :=
  wp_region_quiet (C := fun w' => ∃ p : Cls w, w' = p.n) hm hB ⟨⟨{ w with drawn := w.drawn + 1 }, ⟨rfl, rfl, rfl, Nat.le_refl _, fun _ _ => rfl⟩⟩, rfl⟩ (by simpa using h)
theorem cell_cls {w : World} {a : Addr} {v : Value} (h : w.cell? a = some v) (p : Cls w) : p.n.cell? a = some v := (p.h.cell (World.block_lt_of_cell? _ _ h)).trans h
theorem cls_call {P : Program} {f : FuncId} {args : Array Value} {w : World} {p : Cls w} {v : Value} (h : Calls P f args p.n fun e w' => e = .returned v ∧ Below p.n.heap.size p.n w') :
    Calls P f args p.n fun e w'' => e = .returned v ∧ ∃ q : Cls w, w'' = q.n :=
  h.mono fun _ w' ⟨he, hb⟩ => ⟨he, ⟨w', p.h.trans (hb.mono p.h.size)⟩, rfl⟩
end Go.Proofs.YtmcgaaihdjpdgaaGreatDoor
