/- SpaceOf, FitsIn, TreeOk in plain Lean; append of a row to an own row. IndexFunc, ContainsFunc at Attrs; SpaceOf, Inner of the reference. slices.Grow, slices.Concat at Decls; the program's Inner. The program's SpaceOf: a range over slices.Backward. The program's SpaceOf. The program's FitsIn; TreeOk of both. -/
import Derived.Test.YtmfkdgdamepbcaaGreatDoorPart
import Derived.Test.YtmfkdgdamepbcaaGreatDoorNodeF
import Derived.Test.YtmfkdgdamepbcaaGreatDoorProg
import Derived.Test.YtmfkdgdamepbcaaGreatDoorClone
import Derived.Test.YtmfkdgdamepbcaaGreatDoorOwnG
import Derived.Test.YtmfkdgdamepbcaaGreatDoorOne
import Derived.Lib.AppendZeros
import Derived.RangeFuncNested
import Derived.RangeFuncBound
import Derived.RangeFuncCalls
import Derived.RangeFuncLeaves
import Derived.Shelf.Abstract
import Derived.Shelf.RegionOpen
import Derived.WalkKit
import Derived.OwnWalkIn
import Derived.TacticsInMore
import Derived.LoopNIn
import Derived.LoopIn
import Derived.BigRegionIn
import Derived.Laws.EntriesVeiled
import Derived.WalkLawsBesides
import Derived.WalkSpells
import Derived.Deep.LoopGhost
import Derived.Deep.QuietTactic
import Derived.BigQuiet
import Derived.Outline
import Derived.Laws.BytesArg
import Derived.Deep.RegionHeld3
import Derived.Laws.AppendOwnNone
import Derived.Deep.RegionWith
import Derived.RegionTactic
namespace Go.Proofs.YtmfkdgdamepbcaaGreatDoor
open Go.RowKit Go.Lib
set_option linter.unusedVariables false
set_option linter.unusedSimpArgs false
theorem all_bad {α : Type} {p : α → Bool} {xs : List α} {j : Nat} (hj : j < xs.length) (hp : p (xs[j]'hj) = false) : xs.all p = false :=
  List.all_eq_false.2 ⟨_, List.getElem_mem hj, by simp [hp]⟩
section
variable {P : Program} {α : Type} {n : Nat} {enc : α → List Value} {hn : ∀ x, (enc x).length = n} {w : World} {ok : Nat → Prop}
end
end Go.Proofs.YtmfkdgdamepbcaaGreatDoor
namespace Go.Proofs.YtmfkdgdamepbcaaGreatDoor
open Go.RowKit Go.Lib
set_option linter.unusedVariables false
set_option linter.unusedSimpArgs false
set_option maxHeartbeats 4000000
set_option maxRecDepth 20000
end Go.Proofs.YtmfkdgdamepbcaaGreatDoor
namespace Go.Proofs.YtmfkdgdamepbcaaGreatDoor
open Go.RowKit Go.Lib
set_option linter.unusedVariables false
set_option linter.unusedSimpArgs false
set_option maxHeartbeats 4000000
set_option maxRecDepth 20000
end Go.Proofs.YtmfkdgdamepbcaaGreatDoor
namespace Go.Proofs.YtmfkdgdamepbcaaGreatDoor
open Go.RowKit Go.Lib Go.Shelf
set_option linter.unusedVariables false
set_option linter.unusedSimpArgs false
set_option maxHeartbeats 4000000
set_option maxRecDepth 100000
attribute [local go_sem] Oper.semAt_some
end Go.Proofs.YtmfkdgdamepbcaaGreatDoor
namespace Go.Proofs.YtmfkdgdamepbcaaGreatDoor
open Go.RowKit Go.Lib Go.Shelf
set_option linter.unusedVariables false
set_option linter.unusedSimpArgs false
set_option maxHeartbeats 4000000
set_option maxRecDepth 100000
attribute [local go_sem] Oper.semAt_some
end Go.Proofs.YtmfkdgdamepbcaaGreatDoor
namespace Go.Proofs.YtmfkdgdamepbcaaGreatDoor
open Go.RowKit Go.Lib
set_option linter.unusedVariables false
set_option linter.unusedSimpArgs false
set_option maxHeartbeats 4000000
set_option maxRecDepth 20000
end Go.Proofs.YtmfkdgdamepbcaaGreatDoor
