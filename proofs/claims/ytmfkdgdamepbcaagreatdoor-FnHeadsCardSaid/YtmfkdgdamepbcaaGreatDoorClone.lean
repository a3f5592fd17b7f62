/- slices.Clone at Decls and Attrs. -/
import Derived.Test.YtmfkdgdamepbcaaGreatDoorTo
import Derived.Test.YtmfkdgdamepbcaaGreatDoorOkA
import Derived.Lib.SliceRun
namespace Go.Proofs.YtmfkdgdamepbcaaGreatDoor
open Go.RowKit Go.Lib
set_option linter.unusedVariables false
set_option linter.unusedSimpArgs false
set_option maxHeartbeats 4000000
set_option maxRecDepth 100000
section
variable {α : Type} {n : Nat} {enc : α → List Value} {hn : ∀ x, (enc x).length = n} {w : World} {ok : Nat → Prop}
theorem flat_length (hn : ∀ x, (enc x).length = n) (xs : List α) : (xs.flatMap enc).length = xs.length * n := by
  induction xs with
  | nil => simp
  | cons x xs ih => rw [List.flatMap_cons, List.length_append, hn, ih, List.length_cons, Nat.add_mul]; omega
theorem flat_own {e : TypeId} {base : Nat} {v : Value} {xs : List α} (h : w.ownsRow base e n v xs.length (xs.flatMap enc)) : Own (Kd.flat n enc hn) e w base ok v xs := by
  refine ⟨_, h, flat_length hn xs, fun i hi => ?_⟩
  show ((xs.flatMap enc).drop (i * n)).take n = enc (xs[i]'hi)
  apply List.ext_getElem?
  intro j
  rw [List.getElem?_take]
  split
  · rename_i hj
    rw [List.getElem?_drop, flat_get hn xs i hi j hj]
  · rename_i hj
    rw [List.getElem?_eq_none (by rw [hn]; omega)]
end
end Go.Proofs.YtmfkdgdamepbcaaGreatDoor
