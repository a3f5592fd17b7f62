/- The spec's l5Bare, l5One. -/
import Derived.Test.YtmfkdgdamepbcaaGreatDoorHas
import Derived.Test.YtmfkdgdamepbcaaGreatDoorOkA
import Derived.Test.YtmfkdgdamepbcaaGreatDoorPart
import Derived.Laws.Strings3
import Derived.Laws.RangeString
import Derived.Laws.RangeAny
namespace Go.Proofs.YtmfkdgdamepbcaaGreatDoor
open Go.RowKit Go.Lib
set_option linter.unusedVariables false
set_option linter.unusedSimpArgs false
set_option maxHeartbeats 8000000
set_option maxRecDepth 100000
theorem suffix_one (l : List UInt8) (c : UInt8) : hasSuffix l [c] = (l.getLast? == some c) := by
  unfold hasSuffix List.isSuffixOf
  rw [← List.head?_reverse]
  cases l.reverse with
  | nil => rfl
  | cons a r => simp [List.isPrefixOf]; exact Bool.eq_iff_iff.2 ⟨fun h => by simp at h ⊢; exact h.symm, fun h => by simp at h ⊢; exact h.symm⟩
theorem suffix_at (s : ByteArray) (c : UInt8) (h : 0 < s.size) : hasSuffix s.data.toList [c] = (((s[s.size - 1]'(by omega)).toNat : Int) == (c.toNat : Int)) := by
  rw [suffix_one, List.getLast?_eq_getElem?, str_size, str_get s _ (by omega), Bool.eq_iff_iff]
  simp only [beq_iff_eq, Option.some.injEq]
  constructor
  · rintro h; rw [h]
  · intro h; exact UInt8.toNat_inj.1 (by omega)
end Go.Proofs.YtmfkdgdamepbcaaGreatDoor
