/- What the sign at a place is: plain. -/
import Derived.Test.YtpcklgkpjmmakaaGreatDoorNodeF
import Derived.WalkKit
import Derived.Lib.DecodeN
import Derived.Lib.RuneCountTail
import Derived.Deep.DeepCutAuto
import Derived.Deep.CutBlock
namespace Go.Proofs.YtpcklgkpjmmakaaGreatDoor
open Go.RowKit Go.Lib
set_option linter.unusedVariables false
set_option linter.unusedSimpArgs false
set_option maxRecDepth 20000
set_option maxHeartbeats 1500000
/-- The sign at a place, and the place behind it. -/
def sgnAt (s : ByteArray) (pos : Nat) : Option (Nat × Nat) :=
  if pos < s.size then (if (Utf8.decode s pos).1 = 65533 ∧ (Utf8.decode s pos).2 ≤ 1 then none else some ((Utf8.decode s pos).1, pos + (Utf8.decode s pos).2)) else none
def sgnV (o : Option (Nat × Nat)) : Value := match o with | none => .tuple #[.int .i64 0, .int .i64 0, .bool false] | some (r, nx) => .tuple #[.int .i64 r, .int .i64 nx, .bool true]
def sgnI (s : ByteArray) (pos : Int) : Option (Nat × Nat) := if pos < 0 then none else sgnAt s pos.toNat
def bt (s : ByteArray) (j : Nat) : Nat := (s.get! j).toNat
theorem bt_get (s : ByteArray) (j : Nat) (h : j < s.size) : s[j].toNat = bt s j := by
  unfold bt
  have h2 : j < s.data.size := h
  have e1 : s[j] = s.data[j]'h2 := rfl
  have e2 : s.get! j = s.data[j]! := rfl
  rw [e1, e2, getElem!_pos s.data j h2]
def isCont (b : Nat) : Bool := decide (128 ≤ b) && decide (b ≤ 191)
/-- All of the i bytes behind a place go on a sign. -/
def conts (s : ByteArray) (pos : Nat) : Nat → Bool
  | 0 => true
  | i + 1 => conts s pos i && isCont (bt s (pos + (i + 1)))
def vat (s : ByteArray) (pos v0 : Nat) : Nat → Nat
  | 0 => v0
  | i + 1 => vat s pos v0 i * 64 + (bt s (pos + (i + 1)) - 128)
theorem bt_lt (s : ByteArray) (j : Nat) : bt s j < 256 := UInt8.toNat_lt _
theorem vat_lt (s : ByteArray) (pos v0 : Nat) (h0 : v0 < 32) : ∀ i, i ≤ 3 → vat s pos v0 i < 16777216
  | 0, _ => by simp only [vat, Nat.zero_add, Nat.reduceAdd]; omega
  | 1, _ => by have := bt_lt s (pos + 1); simp only [vat, Nat.zero_add, Nat.reduceAdd]; omega
  | 2, _ => by have := bt_lt s (pos + 1); have := bt_lt s (pos + 2); simp only [vat, Nat.zero_add, Nat.reduceAdd]; omega
  | 3, _ => by have := bt_lt s (pos + 1); have := bt_lt s (pos + 2); have := bt_lt s (pos + 3); simp only [vat, Nat.zero_add, Nat.reduceAdd]; omega
  | i + 4, h => by omega
theorem conts_le (s : ByteArray) (pos : Nat) {i j : Nat} (hij : i ≤ j) (h : conts s pos j = true) : conts s pos i = true := by
  induction j with
  | zero => rw [show i = 0 by omega]; rfl
  | succ j ih =>
    by_cases e : i = j + 1
    · rw [e]; exact h
    · simp only [conts, Bool.and_eq_true] at h; exact ih (by omega) h.1
theorem conts_stop (s : ByteArray) (pos : Nat) {i n : Nat} (hin : i + 1 ≤ n) (h : isCont (bt s (pos + (i + 1))) = false) : conts s pos n = false := by
  cases hc : conts s pos n with
  | false => rfl
  | true =>
    have := conts_le s pos hin hc
    simp only [conts, h, Bool.and_false] at this
    cases this
theorem and_mask (b : Nat) (h : b < 256) : bits .and .i64 (b : Int) 31 = ((b % 32 : Nat) : Int) ∧ bits .and .i64 (b : Int) 15 = ((b % 16 : Nat) : Int) ∧ bits .and .i64 (b : Int) 7 = ((b % 8 : Nat) : Int) := by
  have : ∀ c : Fin 256, bits .and .i64 ((c.val : Nat) : Int) 31 = ((c.val % 32 : Nat) : Int) ∧ bits .and .i64 ((c.val : Nat) : Int) 15 = ((c.val % 16 : Nat) : Int) ∧ bits .and .i64 ((c.val : Nat) : Int) 7 = ((c.val % 8 : Nat) : Int) := by decide +kernel
  exact this ⟨b, h⟩
theorem dec_bt (s : ByteArray) (pos : Nat) : Utf8.decode s pos = decodeN (s.size - pos) (bt s pos) (bt s (pos + 1)) (bt s (pos + 2)) (bt s (pos + 3)) := decode_at s pos
theorem sgn_lit (s : ByteArray) (pos : Nat) (h : pos < s.size) (hb : bt s pos < 128) : sgnAt s pos = some (bt s pos, pos + 1) := by
  have : Utf8.decode s pos = (bt s pos, 1) := by rw [dec_bt]; unfold decodeN; rw [if_pos hb]
  unfold sgnAt
  rw [if_pos h, this, if_neg (by simp only; omega)]
theorem sgn_bad (s : ByteArray) (pos : Nat) (h : pos < s.size) (hb : 128 ≤ bt s pos) (hb2 : bt s pos < 192 ∨ 248 ≤ bt s pos) : sgnAt s pos = none := by
  have : Utf8.decode s pos = (65533, 1) := by
    have := bt_lt s pos
    rw [dec_bt]; unfold decodeN; rw [if_neg (by omega), if_neg (by omega), if_neg (by omega), if_neg (by omega)]
  unfold sgnAt
  rw [if_pos h, this]
  simp
theorem sgn_1 (s : ByteArray) (pos : Nat) (h : pos < s.size) (h1 : 192 ≤ bt s pos) (h2 : bt s pos < 224) :
    sgnAt s pos = if pos + 1 < s.size ∧ conts s pos 1 = true ∧ 128 ≤ vat s pos (bt s pos % 32) 1 ∧ vat s pos (bt s pos % 32) 1 ≤ 1114111 ∧ ¬ (55296 ≤ vat s pos (bt s pos % 32) 1 ∧ vat s pos (bt s pos % 32) 1 ≤ 57343)
      then some (vat s pos (bt s pos % 32) 1, pos + 1 + 1) else none := by
  unfold sgnAt
  rw [if_pos h, dec_bt]
  have g1 := bt_lt s (pos + 1)
  have g2 := bt_lt s (pos + 2)
  have g3 := bt_lt s (pos + 3)
  simp only [conts, vat, isCont, Bool.true_and, Bool.and_eq_true, decide_eq_true_eq, Nat.zero_add, Nat.reduceAdd]
  generalize bt s pos = b0 at *
  generalize bt s (pos + 1) = b1 at *
  generalize bt s (pos + 2) = b2 at *
  generalize bt s (pos + 3) = b3 at *
  unfold decodeN
  repeat' split
  all_goals first
    | rfl
    | (exfalso; omega)
    | (exfalso; simp only at *; omega)
    | (refine congrArg some (Prod.ext ?_ ?_) <;> simp only <;> omega)
theorem sgn_2 (s : ByteArray) (pos : Nat) (h : pos < s.size) (h1 : 224 ≤ bt s pos) (h2 : bt s pos < 240) :
    sgnAt s pos = if pos + 2 < s.size ∧ conts s pos 2 = true ∧ 2048 ≤ vat s pos (bt s pos % 16) 2 ∧ vat s pos (bt s pos % 16) 2 ≤ 1114111 ∧ ¬ (55296 ≤ vat s pos (bt s pos % 16) 2 ∧ vat s pos (bt s pos % 16) 2 ≤ 57343)
      then some (vat s pos (bt s pos % 16) 2, pos + 1 + 2) else none := by
  unfold sgnAt
  rw [if_pos h, dec_bt]
  have g1 := bt_lt s (pos + 1)
  have g2 := bt_lt s (pos + 2)
  have g3 := bt_lt s (pos + 3)
  simp only [conts, vat, isCont, Bool.true_and, Bool.and_eq_true, decide_eq_true_eq, Nat.zero_add, Nat.reduceAdd]
  generalize bt s pos = b0 at *
  generalize bt s (pos + 1) = b1 at *
  generalize bt s (pos + 2) = b2 at *
  generalize bt s (pos + 3) = b3 at *
  unfold decodeN
  repeat' split
  all_goals first
    | rfl
    | (exfalso; omega)
    | (exfalso; simp only at *; omega)
    | (refine congrArg some (Prod.ext ?_ ?_) <;> simp only <;> omega)
theorem sgn_3 (s : ByteArray) (pos : Nat) (h : pos < s.size) (h1 : 240 ≤ bt s pos) (h2 : bt s pos < 248) :
    sgnAt s pos = if pos + 3 < s.size ∧ conts s pos 3 = true ∧ 65536 ≤ vat s pos (bt s pos % 8) 3 ∧ vat s pos (bt s pos % 8) 3 ≤ 1114111 ∧ ¬ (55296 ≤ vat s pos (bt s pos % 8) 3 ∧ vat s pos (bt s pos % 8) 3 ≤ 57343)
      then some (vat s pos (bt s pos % 8) 3, pos + 1 + 3) else none := by
  unfold sgnAt
  rw [if_pos h, dec_bt]
  have g1 := bt_lt s (pos + 1)
  have g2 := bt_lt s (pos + 2)
  have g3 := bt_lt s (pos + 3)
  simp only [conts, vat, isCont, Bool.true_and, Bool.and_eq_true, decide_eq_true_eq, Nat.zero_add, Nat.reduceAdd]
  generalize bt s pos = b0 at *
  generalize bt s (pos + 1) = b1 at *
  generalize bt s (pos + 2) = b2 at *
  generalize bt s (pos + 3) = b3 at *
  unfold decodeN
  repeat' split
  all_goals first
    | rfl
    | (exfalso; omega)
    | (exfalso; simp only at *; omega)
    | (refine congrArg some (Prod.ext ?_ ?_) <;> simp only <;> omega)
end Go.Proofs.YtpcklgkpjmmakaaGreatDoor
