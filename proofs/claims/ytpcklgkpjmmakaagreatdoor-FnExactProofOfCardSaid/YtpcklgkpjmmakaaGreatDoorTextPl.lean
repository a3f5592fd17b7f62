/- Texts and names that are right: plain. -/
import Derived.Test.YtpcklgkpjmmakaaGreatDoorSgn
namespace Go.Proofs.YtpcklgkpjmmakaaGreatDoor
open Go.RowKit Go.Lib
set_option linter.unusedVariables false
theorem sgnAt_next {s : ByteArray} {pos r nx : Nat} (h : sgnAt s pos = some (r, nx)) : pos < nx ∧ nx ≤ s.size ∧ r ≤ 1114111 ∧ pos < s.size := by
  unfold sgnAt at h
  split at h
  · rename_i hp
    have h1 : 1 ≤ (Utf8.decode s pos).2 ∧ (Utf8.decode s pos).2 ≤ s.size - pos ∧ (Utf8.decode s pos).1 ≤ 1114111 := by
      have := bt_lt s pos
      rw [dec_bt]; unfold decodeN; repeat' split
      all_goals (simp only; omega)
    split at h
    · cases h
    · injection h with h; injection h with e1 e2; subst e1; subst e2; omega
  · cases h
/-- From a place on, by so many signs: each is right. -/
def sg (p : Nat → Nat → Bool) (s : ByteArray) : Nat → Nat → Bool
  | 0, _ => true
  | f + 1, pos => if pos < s.size then (match sgnAt s pos with | none => false | some (r, nx) => p pos r && sg p s f nx) else true
theorem sg_fuel (p : Nat → Nat → Bool) (s : ByteArray) : ∀ f f' pos, s.size - pos ≤ f → s.size - pos ≤ f' → sg p s f pos = sg p s f' pos
  | 0, 0, _, _, _ => rfl
  | 0, f' + 1, pos, h, _ => by rw [sg, sg, if_neg (by omega)]
  | f + 1, 0, pos, _, h => by rw [sg, sg, if_neg (by omega)]
  | f + 1, f' + 1, pos, h1, h2 => by
    rw [sg, sg]
    split
    · rename_i hp
      cases e : sgnAt s pos with
      | none => rfl
      | some q =>
        obtain ⟨r, nx⟩ := q
        have := sgnAt_next e
        simp only
        rw [sg_fuel p s f f' nx (by omega) (by omega)]
    · rfl
def sgs (p : Nat → Nat → Bool) (s : ByteArray) (pos : Nat) : Bool := sg p s (s.size - pos) pos
theorem sgs_end (p : Nat → Nat → Bool) (s : ByteArray) (pos : Nat) (h : s.size ≤ pos) : sgs p s pos = true := by unfold sgs; rw [show s.size - pos = 0 by omega]; rfl
theorem sgs_none {p : Nat → Nat → Bool} {s : ByteArray} {pos : Nat} (h : pos < s.size) (e : sgnAt s pos = none) : sgs p s pos = false := by
  unfold sgs; rw [show s.size - pos = (s.size - pos - 1) + 1 by omega, sg, if_pos h, e]
theorem sgs_some {p : Nat → Nat → Bool} {s : ByteArray} {pos r nx : Nat} (e : sgnAt s pos = some (r, nx)) : sgs p s pos = (p pos r && sgs p s nx) := by
  have h := sgnAt_next e
  unfold sgs; rw [show s.size - pos = (s.size - pos - 1) + 1 by omega, sg, if_pos h.2.2.2, e]
  simp only
  rw [sg_fuel p s (s.size - pos - 1) (s.size - nx) nx (by omega) (by omega)]
def signsB (s : ByteArray) : Bool := sgs (fun _ r => isSign r) s 0
def textOk (s : ByteArray) : Bool := decide (s.size ≤ 600) && signsB s
def nameP (pos r : Nat) : Bool := (pos != 0 || isStart r) && isPart r
def plainOk (s : ByteArray) : Bool := decide (1 ≤ s.size) && decide (s.size ≤ 16) && sgs nameP s 0
end Go.Proofs.YtpcklgkpjmmakaaGreatDoor
