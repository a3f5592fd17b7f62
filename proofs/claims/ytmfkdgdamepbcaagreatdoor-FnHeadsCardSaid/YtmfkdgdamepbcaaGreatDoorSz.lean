/- The laws' measures of trees: szDecl .. szNode. -/
import Derived.Test.YtmfkdgdamepbcaaGreatDoorNodeF
import Derived.Test.YtmfkdgdamepbcaaGreatDoorProg
import Derived.WalkKit
import Derived.WalkLawsBesides
import Derived.WalkSpells
import Derived.Deep.LoopGhost
import Derived.Deep.QuietTactic
import Derived.BigQuiet
import Derived.Outline
import Derived.Shelf.Abstract
import Derived.Deep.RegionHeld3
import Derived.Deep.DeepCutAuto
import Derived.Deep.CutBlock
namespace Go.Proofs.YtmfkdgdamepbcaaGreatDoor
open Go.RowKit
set_option linter.unusedVariables false
set_option linter.unusedSimpArgs false
set_option maxRecDepth 20000
set_option maxHeartbeats 1000000
def Dcl.fit (d : Dcl) : Prop := d.pre.size ≤ maxLen ∧ d.uri.size ≤ maxLen
def Atr.fit (a : Atr) : Prop := a.pre.size ≤ maxLen ∧ a.loc.size ≤ maxLen ∧ a.uri.size ≤ maxLen ∧ a.val.size ≤ maxLen
inductive Fit : Nd → Prop
  | mk (n : Nd) (h1 : n.pre.size ≤ maxLen) (h2 : n.loc.size ≤ maxLen) (h3 : n.uri.size ≤ maxLen) (h4 : n.text.size ≤ maxLen) (hd : ∀ d ∈ n.decls, d.fit) (ha : ∀ a ∈ n.attrs, a.fit) (hk : ∀ k ∈ n.kids, Fit k) : Fit n
theorem Fit.out {n : Nd} (h : Fit n) : n.pre.size ≤ maxLen ∧ n.loc.size ≤ maxLen ∧ n.uri.size ≤ maxLen ∧ n.text.size ≤ maxLen ∧ (∀ d ∈ n.decls, d.fit) ∧ (∀ a ∈ n.attrs, a.fit) ∧ ∀ k ∈ n.kids, Fit k := by
  cases h with
  | mk _ h1 h2 h3 h4 hd ha hk => exact ⟨h1, h2, h3, h4, hd, ha, hk⟩
def Dcl.wt (d : Dcl) : Nat := d.pre.size + d.uri.size
def Atr.wt (a : Atr) : Nat := a.pre.size + a.loc.size + a.uri.size + a.val.size
def sumOf {α : Type} (f : α → Nat) : List α → Nat
  | [] => 0
  | x :: r => f x + sumOf f r
theorem sumOf_snoc {α : Type} (f : α → Nat) (l : List α) (x : α) : sumOf f (l ++ [x]) = sumOf f l + f x := by
  induction l with
  | nil => simp [sumOf]
  | cons y l ih => simp [sumOf, ih]; omega
theorem sumOf_take {α : Type} (f : α → Nat) (l : List α) (i : Nat) (h : i < l.length) : sumOf f (l.take (i + 1)) = sumOf f (l.take i) + f (l[i]'h) := by
  rw [List.take_succ_eq_append_getElem h, sumOf_snoc]
theorem sumOf_le {α : Type} (f : α → Nat) (l : List α) (i : Nat) : sumOf f (l.take i) ≤ sumOf f l := by
  induction l generalizing i with
  | nil => simp
  | cons x l ih => cases i with
    | zero => simp [sumOf]
    | succ i => simp [sumOf]; exact ih i
theorem sumOf_mem {α : Type} (f : α → Nat) (l : List α) (x : α) (h : x ∈ l) : f x ≤ sumOf f l := by
  induction l with
  | nil => cases h
  | cons y l ih =>
    simp only [sumOf]
    rcases List.mem_cons.1 h with rfl | h
    · omega
    · have := ih h; omega
mutual
def wt : Nd → Nat
  | ⟨_, pre, loc, uri, decls, attrs, kids, text⟩ => pre.size + loc.size + uri.size + (decls.length + sumOf Dcl.wt decls) + (attrs.length + sumOf Atr.wt attrs) + (kids.length + wtL kids) + text.size
def wtL : List Nd → Nat
  | [] => 0
  | n :: r => wt n + wtL r
end
theorem wt_eq (n : Nd) : wt n = n.pre.size + n.loc.size + n.uri.size + (n.decls.length + sumOf Dcl.wt n.decls) + (n.attrs.length + sumOf Atr.wt n.attrs) + (n.kids.length + wtL n.kids) + n.text.size := by cases n; rw [wt]
theorem wtL_eq (l : List Nd) : wtL l = sumOf wt l := by
  induction l with
  | nil => rw [wtL, sumOf]
  | cons x l ih => rw [wtL, sumOf, ih]
/-- What is left. -/
def szV (left : Int) (W : Nat) : Int := if (W : Int) ≤ left then left - W else -1
theorem szV_of {left r : Int} {W : Nat} (h : (r = left - W ∧ (W : Int) ≤ left) ∨ (r = -1 ∧ left < W)) : r = szV left W := by
  unfold szV
  split
  · omega
  · omega
theorem szV_cases (left : Int) (W : Nat) : (szV left W = left - W ∧ (W : Int) ≤ left) ∨ (szV left W = -1 ∧ left < W) := by
  unfold szV
  split
  · exact .inl ⟨rfl, by assumption⟩
  · exact .inr ⟨rfl, by omega⟩
end Go.Proofs.YtmfkdgdamepbcaaGreatDoor
