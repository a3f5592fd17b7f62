/- The program's noTwoTexts, kidsOk, partOk. -/
import Derived.Test.YtmfkdgdamepbcaaGreatDoorHas
import Derived.Test.YtmfkdgdamepbcaaGreatDoorOkA
import Derived.Test.YtmfkdgdamepbcaaGreatDoorSz
import Derived.Laws.Strings3
import Derived.Laws.RangeString
import Derived.Laws.RangeAny
namespace Go.Proofs.YtmfkdgdamepbcaaGreatDoor
open Go.RowKit Go.Lib
set_option linter.unusedVariables false
set_option linter.unusedSimpArgs false
set_option maxHeartbeats 4000000
set_option maxRecDepth 20000
/-- Texts of a node of little weight are short. -/
theorem small {n : Nd} (h : wt n ≤ 1048576) : (n.pre.size ≤ 1048576 ∧ n.loc.size ≤ 1048576 ∧ n.uri.size ≤ 1048576 ∧ n.text.size ≤ 1048576) ∧ (∀ d ∈ n.decls, d.pre.size ≤ 1048576 ∧ d.uri.size ≤ 1048576) ∧
    (∀ a ∈ n.attrs, a.pre.size ≤ 1048576 ∧ a.loc.size ≤ 1048576 ∧ a.uri.size ≤ 1048576 ∧ a.val.size ≤ 1048576) ∧ (∀ k ∈ n.kids, wt k ≤ 1048576) ∧ n.decls.length ≤ 1048576 ∧ n.attrs.length ≤ 1048576 ∧ n.kids.length ≤ 1048576 := by
  rw [wt_eq] at h
  refine ⟨⟨by omega, by omega, by omega, by omega⟩, fun d hd => ?_, fun a ha => ?_, fun k hk => ?_, by omega, by omega, by omega⟩
  · have := sumOf_mem Dcl.wt n.decls d hd
    have e : d.wt = d.pre.size + d.uri.size := rfl
    omega
  · have := sumOf_mem Atr.wt n.attrs a ha
    have e : a.wt = a.pre.size + a.loc.size + a.uri.size + a.val.size := rfl
    omega
  · have := sumOf_mem wt n.kids k hk
    rw [← wtL_eq] at this
    omega
end Go.Proofs.YtmfkdgdamepbcaaGreatDoor
