/- Plain: a node as text. -/
import Derived.Test.YtdggfnpioljcbaaGreatDoorSNodeOk
import Derived.Test.YtdggfnpioljcbaaGreatDoorEsc
namespace Go.Proofs.YtdggfnpioljcbaaGreatDoor
open Go.RowKit Go.Lib
set_option linter.unusedVariables false
set_option linter.unusedSimpArgs false
def declL (d : Dcl) : List UInt8 := [32] ++ ([120, 109, 108, 110, 115] ++ (if isNo d.pre then [] else [58] ++ d.pre.data.toList)) ++ [61, 34] ++ escAt d.uri.data.toList ++ [34]
def attrL (a : Atr) : List UInt8 := [32] ++ (joinName a.pre a.loc).data.toList ++ [61, 34] ++ escAt a.val.data.toList ++ [34]
mutual
def writeL : Nd → List UInt8
  | ⟨kind, pre, loc, uri, decls, attrs, kids, text⟩ =>
    if kind = 0 then writesL kids
    else if kind = 2 then escT text.data.toList
    else if kind = 3 then [60, 33, 45, 45] ++ text.data.toList ++ [45, 45, 62]
    else if kind = 4 then (if isNo text then [60, 63] ++ loc.data.toList ++ [63, 62] else [60, 63] ++ loc.data.toList ++ [32] ++ text.data.toList ++ [63, 62])
    else if kids.isEmpty then [60] ++ (joinName pre loc).data.toList ++ decls.flatMap declL ++ attrs.flatMap attrL ++ [47, 62]
    else [60] ++ (joinName pre loc).data.toList ++ decls.flatMap declL ++ attrs.flatMap attrL ++ [62] ++ writesL kids ++ [60, 47] ++ (joinName pre loc).data.toList ++ [62]
def writesL : List Nd → List UInt8
  | [] => []
  | n :: r => writeL n ++ writesL r
end
theorem writesL_append (a b : List Nd) : writesL (a ++ b) = writesL a ++ writesL b := by
  induction a with
  | nil => simp [writesL]
  | cons x a ih => simp [writesL, ih]
theorem writesL_take (l : List Nd) (j : Nat) (h : j < l.length) : writesL (l.take (j + 1)) = writesL (l.take j) ++ writeL (l[j]'h) := by
  rw [List.take_succ_eq_append_getElem h, writesL_append]; simp [writesL]
theorem flat_take {α : Type} (f : α → List UInt8) (l : List α) (j : Nat) (h : j < l.length) : (l.take (j + 1)).flatMap f = (l.take j).flatMap f ++ f (l[j]'h) := by
  rw [List.take_succ_eq_append_getElem h, List.flatMap_append]; simp
theorem flat_le {α : Type} (f : α → List UInt8) (g : α → Nat) (h : ∀ a, (f a).length ≤ 16 * g a + 16) : ∀ l : List α, (l.flatMap f).length ≤ 16 * (l.length + sumOf g l)
  | [] => by simp
  | a :: l => by
    have := flat_le f g h l
    have := h a
    simp only [List.flatMap_cons, List.length_append, List.length_cons, sumOf]
    omega
theorem escT_le (l : List UInt8) : (escT l).length ≤ 6 * l.length := flatMap_length_le escC_le l
theorem escAt_le (l : List UInt8) : (escAt l).length ≤ 6 * l.length := flatMap_length_le escA_le l
theorem joinName_le (pre loc : ByteArray) : (joinName pre loc).data.toList.length ≤ pre.size + loc.size + 1 := by
  have : (joined pre loc).data.toList.length ≤ pre.size + loc.size + 1 := by
    unfold joined
    split
    · rw [str_size]; omega
    · rw [str_append, str_append, List.length_append, List.length_append, str_size, str_size, str_size]
      have : (⟨#[58]⟩ : ByteArray).size = 1 := rfl
      omega
  unfold joinName
  split
  · simp
  · split
    · exact this
    · simp
theorem declL_le (d : Dcl) : (declL d).length ≤ 16 * d.wt + 16 := by
  have h := escAt_le d.uri.data.toList
  have e : d.wt = d.pre.size + d.uri.size := rfl
  have h1 := str_size d.pre
  have h2 := str_size d.uri
  unfold declL
  simp only [List.length_append, List.length_cons, List.length_nil]
  split <;> simp only [List.length_append, List.length_cons, List.length_nil] <;> omega
theorem attrL_le (a : Atr) : (attrL a).length ≤ 16 * a.wt + 16 := by
  have h := escAt_le a.val.data.toList
  have e : a.wt = a.pre.size + a.loc.size + a.uri.size + a.val.size := rfl
  have h1 := joinName_le a.pre a.loc
  have h2 := str_size a.val
  unfold attrL
  simp only [List.length_append, List.length_cons, List.length_nil]
  omega
mutual
theorem writeL_le : ∀ n : Nd, (writeL n).length ≤ 16 * wt n + 16
  | ⟨kind, pre, loc, uri, decls, attrs, kids, text⟩ => by
    have h0 := writesL_le kids
    have h1 := flat_le declL Dcl.wt declL_le decls
    have h2 := flat_le attrL Atr.wt attrL_le attrs
    have h3 := joinName_le pre loc
    have h4 := escT_le text.data.toList
    have h5 := str_size text
    have h6 := str_size loc
    rw [writeL, wt]
    repeat' split
    all_goals ((try simp only [List.length_append, List.length_cons, List.length_nil]); omega)
theorem writesL_le : ∀ l : List Nd, (writesL l).length ≤ 16 * (l.length + wtL l)
  | [] => by simp [writesL]
  | n :: r => by
    have h1 := writeL_le n
    have h2 := writesL_le r
    rw [writesL, wtL, List.length_append, List.length_cons]
    omega
end
theorem writesL_take_le (l : List Nd) (j : Nat) : (writesL (l.take j)).length ≤ (writesL l).length := by
  have : writesL l = writesL (l.take j) ++ writesL (l.drop j) := by rw [← writesL_append, List.take_append_drop]
  rw [this, List.length_append]; omega
theorem flat_take_le {α : Type} (f : α → List UInt8) (l : List α) (j : Nat) : ((l.take j).flatMap f).length ≤ (l.flatMap f).length := by
  have : l.flatMap f = (l.take j).flatMap f ++ (l.drop j).flatMap f := by rw [← List.flatMap_append, List.take_append_drop]
  rw [this, List.length_append]; omega
/-- A text of bytes. -/
theorem str_eq {t : ByteArray} {l : List UInt8} (h : t.data.toList = l) : t = ⟨l.toArray⟩ := str_ext h
end Go.Proofs.YtdggfnpioljcbaaGreatDoor
