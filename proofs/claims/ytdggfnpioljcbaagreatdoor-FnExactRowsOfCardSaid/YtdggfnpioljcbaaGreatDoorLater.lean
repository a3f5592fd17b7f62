/- Regions that draw their order, over the class of the worlds that keep what there is: loads of old cells, callees that make memory. -/
import Derived.Test.YtdggfnpioljcbaaGreatDoorKit
namespace Go.Proofs.YtdggfnpioljcbaaGreatDoor
open Go.RowKit
/-- A world behind w in which all blocks of w are as they were. -/
structure Later (w : World) where
  W : World
  h : Below w.heap.size w W
instance (w : World) : Nonempty (Later w) := ⟨⟨w, Below.refl _ _⟩⟩
theorem wp_region_later {P : Program} {id : Nat} {Q : Exit → Act → World → Prop} {a : Act} {w : World} {l : List Oper} (hm : P.follows .mixedOrders = true) (hB : Region.lexB .any l.toArray = true)
    (h : wpQuiet P l.toArray (fun w' => ∃ x : Later w, w' = x.W) (fun a' => ∀ w', (∃ x : Later w, w' = x.W) → Q .normal a' w') l a) : (Code.region id l.toArray true).wp P Q a w :=
  wp_region_quiet (C := fun w' => ∃ x : Later w, w' = x.W) hm hB ⟨⟨{ w with drawn := w.drawn + 1 }, ⟨rfl, rfl, rfl, Nat.le_refl _, fun _ _ => rfl⟩⟩, rfl⟩ (by simpa using h)
theorem later_call {P : Program} {f : FuncId} {args : Array Value} {w : World} {v : Value} {x : Later w} (h : Calls P f args x.W fun e w' => e = .returned v ∧ Below x.W.heap.size x.W w') :
    Calls P f args x.W fun e w'' => e = .returned v ∧ ∃ y : Later w, w'' = y.W := h.mono fun _ w' ⟨he, hb⟩ => ⟨he, ⟨w', below_then x.h hb⟩, rfl⟩
theorem later_cell {w : World} {b o : Nat} {v : Value} (h : w.cell? ⟨b, o, none⟩ = some v) (hb : b < w.heap.size) : ∀ x : Later w, x.W.cell? ⟨b, o, none⟩ = some v := fun x => ((bcell x.h).1 b o hb).trans h
end Go.Proofs.YtdggfnpioljcbaaGreatDoor
