/- Plain: what makes Attrs, leaves and kids right. -/
import Derived.Test.YtpcklgkpjmmakaaGreatDoorDecl
import Derived.Lib.Fold
namespace Go.Proofs.YtpcklgkpjmmakaaGreatDoor
open Go.RowKit Go.Lib
set_option linter.unusedVariables false
/-! ### lists, each element right, and right behind the one before -/
section
variable {α : Type}
def chain (p : α → Bool) (lt : α → α → Bool) : Option α → List α → Bool
  | _, [] => true
  | none, x :: r => p x && chain p lt (some x) r
  | some y, x :: r => p x && lt y x && chain p lt (some x) r
def prevOf (l : List α) : Nat → Option α
  | 0 => none
  | j + 1 => l[j]?
theorem chain_end {p : α → Bool} {lt : α → α → Bool} {l : List α} {j : Nat} (h : l.length ≤ j) : chain p lt (prevOf l j) (l.drop j) = true := by
  rw [List.drop_eq_nil_of_le h, chain]
theorem chain_zero {p : α → Bool} {lt : α → α → Bool} {l : List α} (h : 0 < l.length) : chain p lt none l = (p (l[0]'h) && chain p lt (prevOf l 1) (l.drop 1)) := by
  cases l with
  | nil => exact absurd h (Nat.not_lt_zero _)
  | cons x r => simp [chain, prevOf]
theorem chain_succ {p : α → Bool} {lt : α → α → Bool} {l : List α} {j : Nat} (h : j + 1 < l.length) :
    chain p lt (prevOf l (j + 1)) (l.drop (j + 1)) = (p (l[j + 1]'h) && lt (l[j]'(by omega)) (l[j + 1]'h) && chain p lt (prevOf l (j + 2)) (l.drop (j + 2))) := by
  rw [List.drop_eq_getElem_cons h]
  simp only [prevOf, List.getElem?_eq_getElem h, List.getElem?_eq_getElem (show j < l.length by omega), chain]
theorem chain_bad {p : α → Bool} {lt : α → α → Bool} {l : List α} {j : Nat} (h : j < l.length) (hp : p (l[j]'h) = false) : chain p lt (prevOf l j) (l.drop j) = false := by
  cases j with
  | zero => rw [show prevOf l 0 = none from rfl, List.drop_zero, chain_zero h, hp]; rfl
  | succ j => rw [chain_succ h, hp]; rfl
theorem chain_of (p : α → Bool) (lt : α → α → Bool) (prev : Option α) (l : List α) : chain p lt prev l = (l.all p && chain (fun _ => true) lt prev l) := by
  induction l generalizing prev with
  | nil => simp [chain]
  | cons x r ih =>
    cases prev with
    | none => simp only [chain, List.all_cons, ih (some x), Bool.true_and, Bool.and_assoc]
    | some y =>
      simp only [chain, List.all_cons, ih (some x), Bool.true_and]
      cases p x <;> cases lt y x <;> cases r.all p <;> simp
end
def ltB (a b : ByteArray) : Bool := Op.bytesLess a.toList b.toList
def strB (a b : ByteArray) : Bool := decide (a = b)
def isXmlns (s : ByteArray) : Bool := strB s ⟨#[120, 109, 108, 110, 115]⟩
def attrOk (a : Atr) : Bool := preOk a.pre && (isNo a.pre == isNo a.uri) && uriOk a.uri a.pre && plainOk a.loc && textOk a.val && (!isNo a.pre || !isXmlns a.loc)
def attrLt (a b : Atr) : Bool := ltB a.uri b.uri || (strB a.uri b.uri && ltB a.loc b.loc)
def declLt (a b : Dcl) : Bool := ltB a.pre b.pre
def declsOk (l : List Dcl) : Bool := chain declOk declLt none l && decide (l.length ≤ 4)
def attrsOk (l : List Atr) : Bool := chain attrOk attrLt none l && decide (l.length ≤ 5)
def hasB (s : ByteArray) (t : List UInt8) : Bool := contains s.data.toList t
/-- xml, in any letters. -/
def isXml (s : ByteArray) : Bool := equalFold s.data.toList [120, 109, 108]
def bare (n : Nd) : Bool := isNo n.pre && isNo n.uri && n.decls.isEmpty && n.attrs.isEmpty && n.kids.isEmpty
def noteOk (s : ByteArray) : Bool := textOk s && !hasB s [45, 45] && !hasSuffix s.data.toList [45] && !hasB s [13]
def toldOk (loc s : ByteArray) : Bool := plainOk loc && !isXml loc && textOk s && !hasB s [63, 62] && !hasB s [13] && !(match s.data.toList with | [] => false | b :: _ => isBlank b.toNat)
def leafOk (n : Nd) : Bool :=
  bare n && (if n.kind = 2 then isNo n.loc && !isNo n.text && textOk n.text else if n.kind = 3 then isNo n.loc && noteOk n.text else if n.kind = 4 then toldOk n.loc n.text else false)
def elOk (n : Nd) : Bool := isNo n.text && preOk n.pre && uriOk n.uri n.pre && plainOk n.loc && declsOk n.decls && attrsOk n.attrs
/-- Right but for its kids. -/
def oneOk (n : Nd) : Bool := if n.kind = 1 then elOk n else leafOk n
mutual
def partOk : Nat → Nd → Bool
  | deep, ⟨kind, pre, loc, uri, decls, attrs, kids, text⟩ => oneOk ⟨kind, pre, loc, uri, decls, attrs, kids, text⟩ && (kind != 1 || (decide (deep < 7) && kidsOk (deep + 1) none kids))
def kidsOk : Nat → Option Nd → List Nd → Bool
  | _, _, [] => true
  | deep, none, n :: r => partOk deep n && kidsOk deep (some n) r
  | deep, some m, n :: r => partOk deep n && !(m.kind == 2 && n.kind == 2) && kidsOk deep (some n) r
end
def noTwo (m n : Nd) : Bool := !(m.kind == 2 && n.kind == 2)
theorem partOk_eq (deep : Nat) (n : Nd) : partOk deep n = (oneOk n && (n.kind != 1 || (decide (deep < 7) && kidsOk (deep + 1) none n.kids))) := by cases n; rw [partOk]
theorem kidsOk_chain (deep : Nat) (prev : Option Nd) (l : List Nd) : kidsOk deep prev l = chain (partOk deep) noTwo prev l := by
  induction l generalizing prev with
  | nil => cases prev <;> simp [kidsOk, chain]
  | cons x r ih => cases prev <;> simp [kidsOk, chain, noTwo, ih]
def ofKind (l : List Nd) (k : Int) : Nat := (l.filter fun n => n.kind == k).length
def nodeOk (n : Nd) : Bool :=
  decide (cnt n ≤ 60) && (if n.kind = 0 then
    isNo n.pre && isNo n.loc && isNo n.uri && isNo n.text && n.decls.isEmpty && n.attrs.isEmpty && decide (ofKind n.kids 1 = 1) && decide (ofKind n.kids 2 = 0) && kidsOk 0 none n.kids
  else partOk 0 n)
end Go.Proofs.YtpcklgkpjmmakaaGreatDoor
