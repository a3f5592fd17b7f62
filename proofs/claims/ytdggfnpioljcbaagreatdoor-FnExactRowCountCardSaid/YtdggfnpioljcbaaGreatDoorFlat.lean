/- Rows that are laid out whole; ranges. No program here. -/
import Derived.Test.YtdggfnpioljcbaaGreatDoorNode
namespace Go.Proofs.YtdggfnpioljcbaaGreatDoor
open Go.RowKit
set_option linter.unusedVariables false
theorem flat_get {α : Type} {n : Nat} {enc : α → List Value} (hn : ∀ x, (enc x).length = n) (xs : List α) (i : Nat) (hi : i < xs.length) (j : Nat) (hj : j < n) : (xs.flatMap enc)[i * n + j]? = (enc (xs[i]'hi))[j]? := by
  induction xs generalizing i with
  | nil => exact absurd hi (Nat.not_lt_zero _)
  | cons x xs ih =>
    rw [List.flatMap_cons]
    cases i with
    | zero => rw [Nat.zero_mul, Nat.zero_add, List.getElem?_append_left (by rw [hn]; exact hj)]; rfl
    | succ i =>
      rw [List.getElem?_append_right (by rw [hn, Nat.add_mul]; omega), hn, show (i + 1) * n + j - n = i * n + j from by rw [Nat.add_mul]; omega]
      exact ih i (by simpa using hi)
theorem row_flat {α : Type} {n : Nat} {enc : α → List Value} {hn : ∀ x, (enc x).length = n} {w : World} {ok : Nat → Prop} {T : TypeId} {cells : Array Value} (xs : List α) (hc : cells = (xs.flatMap enc).toArray) (hok : ok w.heap.size) (hm : xs.length ≤ maxLen) :
    Row (Kd.flat n enc hn) (w.alloc (.cells cells T (0, 0))) ok (some ⟨w.heap.size, 0, none⟩) xs := by
  refine ⟨hm, .inr ⟨_, _, rfl, hok, by rw [World.alloc, Array.size_push]; omega, fun i hi => ⟨_, rfl, fun j v hj => ?_⟩⟩⟩
  have hg : (w.alloc (.cells cells T (0, 0))).heap[w.heap.size]? = some (.cells cells T (0, 0)) := Array.getElem?_push_size
  rw [cell_of_row _ _ _ _ _ _ hg, hc]
  have hjn : j < n := by rw [← hn (xs[i]'hi)]; exact (List.getElem?_eq_some_iff.1 hj).1
  show (xs.flatMap enc).toArray[0 + i * n + j]? = some v
  rw [Nat.zero_add, List.getElem?_toArray, flat_get hn xs i hi j hjn, hj]

/-- Ranges. -/
def rgCells (r : Int × Int) : List Value := [.int .i64 r.1, .int .i64 r.2]
def Kd.rg : Kd (Int × Int) := Kd.flat 2 rgCells (fun _ => rfl)
def inR1 (n : Int) (r : Int × Int) : Bool := decide (r.1 ≤ n) && decide (n ≤ r.2)
def inR (n : Int) (rs : List (Int × Int)) : Bool := rs.any (inR1 n)
theorem rg_at {w : World} {ok : Nat → Prop} {A : Option Addr} {xs : List (Int × Int)} (h : Row Kd.rg w ok A xs) (i : Nat) (hi : i < xs.length) :
    ∃ b o, A = some ⟨b, o, none⟩ ∧ b < w.heap.size ∧ w.cell? ⟨b, o + i * 2, none⟩ = some (.int .i64 (xs[i]'hi).1) ∧ w.cell? ⟨b, o + i * 2 + 1, none⟩ = some (.int .i64 (xs[i]'hi).2) := by
  obtain ⟨b, o, cs, hA, hb, _, hk, hc⟩ := h.at_ i hi
  have hk : cs = rgCells (xs[i]'hi) := hk
  subst hk
  exact ⟨b, o, hA, hb, hc 0 _ rfl, hc 1 _ rfl⟩
/-- Every second is the end of a range. -/
def flatR (rs : List (Int × Int)) : List Int := rs.flatMap fun r => [r.1, r.2]
theorem flatR_length (rs : List (Int × Int)) : (flatR rs).length = 2 * rs.length := by
  induction rs with
  | nil => rfl
  | cons r rs ih => simp only [flatR, List.flatMap_cons, List.length_append, List.length_cons, List.length_nil] at *; omega

def signR : List (Int × Int) := [(9, 10), (13, 13), (32, 55295), (57344, 65533), (65536, 1114111)]
def startR : List (Int × Int) := [(65, 90), (95, 95), (97, 122), (192, 214), (216, 246), (248, 767), (880, 893), (895, 8191), (8204, 8205), (8304, 8591), (11264, 12271), (12289, 55295), (63744, 64975), (65008, 65533), (65536, 983039)]
def partR : List (Int × Int) := [(45, 46), (48, 57), (183, 183), (768, 879), (8255, 8256)]
def isSign (n : Int) : Bool := inR n signR
def isStart (n : Int) : Bool := inR n startR
def isPart (n : Int) : Bool := isStart n || inR n partR
def isBlank (n : Int) : Bool := n == 9 || n == 10 || n == 13 || n == 32
theorem isSign_spec (n : Int) : isSign n = (n == 9 || n == 10 || n == 13 || (decide (32 ≤ n) && decide (n ≤ 55295)) || (decide (57344 ≤ n) && decide (n ≤ 65533)) || (decide (65536 ≤ n) && decide (n ≤ 1114111))) := by
  rw [Bool.eq_iff_iff]
  simp only [isSign, inR, inR1, signR, List.any_cons, List.any_nil, Bool.or_eq_true, Bool.and_eq_true, decide_eq_true_eq, beq_iff_eq, Bool.or_false]
  omega
end Go.Proofs.YtdggfnpioljcbaaGreatDoor
