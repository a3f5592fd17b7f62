/- The laws' measures of trees: szDecl .. szNode. -/
import Derived.Test.YtpcklgkpjmmakaaGreatDoorNodeF
import Derived.Test.YtpcklgkpjmmakaaGreatDoorProg
import Derived.WalkKit
import Derived.WalkLawsBesides
import Derived.WalkSpells
import Derived.Deep.LoopGhost
import Derived.Deep.QuietTactic
import Derived.BigQuiet
import Derived.Outline
import Derived.Shelf.Abstract
import Derived.Deep.RegionHeld3
import Derived.Deep.DeepCutAuto
import Derived.Deep.CutBlock
namespace Go.Proofs.YtpcklgkpjmmakaaGreatDoor
open Go.RowKit
set_option linter.unusedVariables false
set_option linter.unusedSimpArgs false
set_option maxRecDepth 20000
set_option maxHeartbeats 1000000
def Dcl.fit (d : Dcl) : Prop := d.pre.size ≤ maxLen ∧ d.uri.size ≤ maxLen
def Atr.fit (a : Atr) : Prop := a.pre.size ≤ maxLen ∧ a.loc.size ≤ maxLen ∧ a.uri.size ≤ maxLen ∧ a.val.size ≤ maxLen
inductive Fit : Nd → Prop
  | mk (n : Nd) (h1 : n.pre.size ≤ maxLen) (h2 : n.loc.size ≤ maxLen) (h3 : n.uri.size ≤ maxLen) (h4 : n.text.size ≤ maxLen) (hd : ∀ d ∈ n.decls, d.fit) (ha : ∀ a ∈ n.attrs, a.fit) (hk : ∀ k ∈ n.kids, Fit k) : Fit n
theorem Fit.out {n : Nd} (h : Fit n) : n.pre.size ≤ maxLen ∧ n.loc.size ≤ maxLen ∧ n.uri.size ≤ maxLen ∧ n.text.size ≤ maxLen ∧ (∀ d ∈ n.decls, d.fit) ∧ (∀ a ∈ n.attrs, a.fit) ∧ ∀ k ∈ n.kids, Fit k := by
  cases h with
  | mk _ h1 h2 h3 h4 hd ha hk => exact ⟨h1, h2, h3, h4, hd, ha, hk⟩
def Dcl.wt (d : Dcl) : Nat := d.pre.size + d.uri.size
def Atr.wt (a : Atr) : Nat := a.pre.size + a.loc.size + a.uri.size + a.val.size
def sumOf {α : Type} (f : α → Nat) : List α → Nat
  | [] => 0
  | x :: r => f x + sumOf f r
theorem sumOf_snoc {α : Type} (f : α → Nat) (l : List α) (x : α) : sumOf f (l ++ [x]) = sumOf f l + f x := by
  induction l with
  | nil => simp [sumOf]
  | cons y l ih => simp [sumOf, ih]; omega
theorem sumOf_take {α : Type} (f : α → Nat) (l : List α) (i : Nat) (h : i < l.length) : sumOf f (l.take (i + 1)) = sumOf f (l.take i) + f (l[i]'h) := by
  rw [List.take_succ_eq_append_getElem h, sumOf_snoc]
theorem sumOf_le {α : Type} (f : α → Nat) (l : List α) (i : Nat) : sumOf f (l.take i) ≤ sumOf f l := by
  induction l generalizing i with
  | nil => simp
  | cons x l ih => cases i with
    | zero => simp [sumOf]
    | succ i => simp [sumOf]; exact ih i
theorem sumOf_mem {α : Type} (f : α → Nat) (l : List α) (x : α) (h : x ∈ l) : f x ≤ sumOf f l := by
  induction l with
  | nil => cases h
  | cons y l ih =>
    simp only [sumOf]
    rcases List.mem_cons.1 h with rfl | h
    · omega
    · have := ih h; omega
mutual
def wt : Nd → Nat
  | ⟨_, pre, loc, uri, decls, attrs, kids, text⟩ => pre.size + loc.size + uri.size + (decls.length + sumOf Dcl.wt decls) + (attrs.length + sumOf Atr.wt attrs) + (kids.length + wtL kids) + text.size
def wtL : List Nd → Nat
  | [] => 0
  | n :: r => wt n + wtL r
end
theorem wt_eq (n : Nd) : wt n = n.pre.size + n.loc.size + n.uri.size + (n.decls.length + sumOf Dcl.wt n.decls) + (n.attrs.length + sumOf Atr.wt n.attrs) + (n.kids.length + wtL n.kids) + n.text.size := by cases n; rw [wt]
theorem wtL_eq (l : List Nd) : wtL l = sumOf wt l := by
  induction l with
  | nil => rw [wtL, sumOf]
  | cons x l ih => rw [wtL, sumOf, ih]
/-- What is left. -/
def szV (left : Int) (W : Nat) : Int := if (W : Int) ≤ left then left - W else -1
theorem szV_of {left r : Int} {W : Nat} (h : (r = left - W ∧ (W : Int) ≤ left) ∨ (r = -1 ∧ left < W)) : r = szV left W := by
  unfold szV
  split
  · omega
  · omega
theorem szV_cases (left : Int) (W : Nat) : (szV left W = left - W ∧ (W : Int) ≤ left) ∨ (szV left W = -1 ∧ left < W) := by
  unfold szV
  split
  · exact .inl ⟨rfl, by assumption⟩
  · exact .inr ⟨rfl, by omega⟩
theorem szDecl_calls (d : Dcl) (left : Int) (w : World) (h0 : 0 ≤ left) (h1 : left ≤ 1099511627776) (hf : d.fit) :
    Calls Tryz.prog 96 #[.agg #[.string d.pre, .string d.uri], .int .i64 left] w fun e w' => e = .returned (.int .i64 (szV left d.wt)) ∧ Below w.heap.size w w' := by
  obtain ⟨hf0, hf1⟩ := hf
  have hf0 : d.pre.size ≤ 9223372036854775807 := hf0
  have hf1 : d.uri.size ≤ 9223372036854775807 := hf1
  have hw := Aside0.mk (show d.wt = d.pre.size + d.uri.size from rfl)
  obtain ⟨W, hW, HB, hsz, HG⟩ := boxed w #[.string d.pre, .string d.uri] 119
  have c0 := cell_of_row W w.heap.size 0 _ _ _ HG
  have c1 := cell_of_row W w.heap.size 1 _ _ _ HG
  simp only [List.getElem?_toArray, List.getElem?_cons_zero, List.getElem?_cons_succ] at c0 c1
  have HW := Aside0.mk hW
  clear hW HG
  go_enter Tryz.func96, Tryz.ntmps96
  go_upto_region 1 with fail
  rw [← HW.out]
  go_wp2
  all_goals (go_ret; exact ⟨congrArg (fun r => Ending.returned (Value.int .i64 r)) (szV_of (by have := hw.out; omega)), HB⟩)
theorem szAttr_calls (d : Atr) (left : Int) (w : World) (h0 : 0 ≤ left) (h1 : left ≤ 1099511627776) (hf : d.fit) :
    Calls Tryz.prog 97 #[.agg #[.string d.pre, .string d.loc, .string d.uri, .string d.val], .int .i64 left] w fun e w' => e = .returned (.int .i64 (szV left d.wt)) ∧ Below w.heap.size w w' := by
  obtain ⟨hf0, hf1, hf2, hf3⟩ := hf
  have hf0 : d.pre.size ≤ 9223372036854775807 := hf0
  have hf1 : d.loc.size ≤ 9223372036854775807 := hf1
  have hf2 : d.uri.size ≤ 9223372036854775807 := hf2
  have hf3 : d.val.size ≤ 9223372036854775807 := hf3
  have hw := Aside0.mk (show d.wt = d.pre.size + d.loc.size + d.uri.size + d.val.size from rfl)
  obtain ⟨W, hW, HB, hsz, HG⟩ := boxed w #[.string d.pre, .string d.loc, .string d.uri, .string d.val] 121
  have c0 := cell_of_row W w.heap.size 0 _ _ _ HG
  have c1 := cell_of_row W w.heap.size 1 _ _ _ HG
  have c2 := cell_of_row W w.heap.size 2 _ _ _ HG
  have c3 := cell_of_row W w.heap.size 3 _ _ _ HG
  simp only [List.getElem?_toArray, List.getElem?_cons_zero, List.getElem?_cons_succ] at c0 c1 c2 c3
  have HW := Aside0.mk hW
  clear hW HG
  go_enter Tryz.func97, Tryz.ntmps97
  go_upto_region 1 with fail
  rw [← HW.out]
  go_wp2
  all_goals (go_ret; exact ⟨congrArg (fun r => Ending.returned (Value.int .i64 r)) (szV_of (by have := hw.out; omega)), HB⟩)
theorem szDeclS_calls {ok : Nat → Prop} (A : Option Addr) (c : Nat) (xs : List Dcl) (left : Int) (w : World) (h0 : 0 ≤ left) (h1 : left ≤ 1099511627776) (hf : ∀ d ∈ xs, d.fit) (hr : Row Kd.dcl w ok A xs) :
    Calls Tryz.prog 63 #[.slice A xs.length c, .int .i64 left] w fun e w' => e = .returned (.int .i64 (szV left (xs.length + sumOf Dcl.wt xs))) ∧ Below w.heap.size w w' := by
  have hmax := hr.max
  have hf := Aside0.mk hf
  go_enter Tryz.func63, Tryz.ntmps63
  by_cases hlen : (xs.length : Int) ≤ left
  · go_wp2
    go_loopg [1, 5] xs.length (fun k s t wr => ∃ (l : Int) (j : Nat), s = .int .i64 l ∧ t = .int .i64 j ∧ j + k = xs.length ∧ 0 ≤ l ∧ l ≤ left ∧ Aside (l = left - xs.length - (sumOf Dcl.wt (xs.take j) : Nat)) ∧ Below w.heap.size w wr)
    case atStart => exact ⟨left - xs.length, 0, rfl, rfl, by omega, by omega, by omega, (by simp [sumOf] : _ = _), Below.refl _ _⟩
    case round =>
      obtain ⟨l, j, rfl, rfl, hk, hl0, hl1, ha, hb⟩ := hrel
      by_cases hj : j < xs.length
      · obtain ⟨b, o, rfl, hbl, d0, d1⟩ := dcl_at (hr.below hb) j hj
        have hstep := Aside0.mk (sumOf_take Dcl.wt xs j hj)
        have hle := Aside0.mk (sumOf_le Dcl.wt xs (j + 1))
        clear hr
        go_wp2_with fail
        refine (szDecl_calls (xs[j]'hj) l wr hl0 (by omega) (hf.out _ (List.getElem_mem hj))).mono ?_
        rintro e w1 ⟨rfl, hb1⟩
        rcases szV_cases l (xs[j]'hj).wt with ⟨e1, e2⟩ | ⟨e1, e2⟩
        · rw [e1]
          have hnx := Aside0.mk (show l - (xs[j]'hj).wt = left - xs.length - (sumOf Dcl.wt (xs.take (j + 1)) : Nat) by rw [hstep.out, ha.out]; omega)
          clear e1
          go_wp2
          go_roundg (gk - 1)
          case measure => omega
          case rel => exact ⟨_, j + 1, rfl, by go_num, by omega, by omega, by omega, hnx.out, below_then hb hb1⟩
        · rw [e1]
          have hnx := Aside0.mk (show left < (xs.length + sumOf Dcl.wt xs : Nat) by have := hle.out; rw [hstep.out] at this; have := ha.out; omega)
          clear e1 e2
          go_wp2
          go_ret
          exact ⟨congrArg (fun r => Ending.returned (Value.int .i64 r)) (szV_of (by have := hnx.out; omega)), below_then hb hb1⟩
      · have hnx := Aside0.mk (show l = left - xs.length - (sumOf Dcl.wt xs : Nat) by rw [ha.out, List.take_of_length_le (by omega)])
        clear ha hr
        go_wp2
        go_ret
        exact ⟨congrArg (fun r => Ending.returned (Value.int .i64 r)) (szV_of (by have := hnx.out; omega)), hb⟩
  · go_wp2
    go_ret
    exact ⟨congrArg (fun r => Ending.returned (Value.int .i64 r)) (szV_of (by omega)), Below.refl _ _⟩
theorem szAttrS_calls {ok : Nat → Prop} (A : Option Addr) (c : Nat) (xs : List Atr) (left : Int) (w : World) (h0 : 0 ≤ left) (h1 : left ≤ 1099511627776) (hf : ∀ d ∈ xs, d.fit) (hr : Row Kd.atr w ok A xs) :
    Calls Tryz.prog 64 #[.slice A xs.length c, .int .i64 left] w fun e w' => e = .returned (.int .i64 (szV left (xs.length + sumOf Atr.wt xs))) ∧ Below w.heap.size w w' := by
  have hmax := hr.max
  have hf := Aside0.mk hf
  go_enter Tryz.func64, Tryz.ntmps64
  by_cases hlen : (xs.length : Int) ≤ left
  · go_wp2
    go_loopg [1, 5] xs.length (fun k s t wr => ∃ (l : Int) (j : Nat), s = .int .i64 l ∧ t = .int .i64 j ∧ j + k = xs.length ∧ 0 ≤ l ∧ l ≤ left ∧ Aside (l = left - xs.length - (sumOf Atr.wt (xs.take j) : Nat)) ∧ Below w.heap.size w wr)
    case atStart => exact ⟨left - xs.length, 0, rfl, rfl, by omega, by omega, by omega, (by simp [sumOf] : _ = _), Below.refl _ _⟩
    case round =>
      obtain ⟨l, j, rfl, rfl, hk, hl0, hl1, ha, hb⟩ := hrel
      by_cases hj : j < xs.length
      · obtain ⟨b, o, rfl, hbl, d0, d1, d2, d3⟩ := atr_at (hr.below hb) j hj
        have hstep := Aside0.mk (sumOf_take Atr.wt xs j hj)
        have hle := Aside0.mk (sumOf_le Atr.wt xs (j + 1))
        clear hr
        go_wp2_with fail
        refine (szAttr_calls (xs[j]'hj) l wr hl0 (by omega) (hf.out _ (List.getElem_mem hj))).mono ?_
        rintro e w1 ⟨rfl, hb1⟩
        rcases szV_cases l (xs[j]'hj).wt with ⟨e1, e2⟩ | ⟨e1, e2⟩
        · rw [e1]
          have hnx := Aside0.mk (show l - (xs[j]'hj).wt = left - xs.length - (sumOf Atr.wt (xs.take (j + 1)) : Nat) by rw [hstep.out, ha.out]; omega)
          clear e1
          go_wp2
          go_roundg (gk - 1)
          case measure => omega
          case rel => exact ⟨_, j + 1, rfl, by go_num, by omega, by omega, by omega, hnx.out, below_then hb hb1⟩
        · rw [e1]
          have hnx := Aside0.mk (show left < (xs.length + sumOf Atr.wt xs : Nat) by have := hle.out; rw [hstep.out] at this; have := ha.out; omega)
          clear e1 e2
          go_wp2
          go_ret
          exact ⟨congrArg (fun r => Ending.returned (Value.int .i64 r)) (szV_of (by have := hnx.out; omega)), below_then hb hb1⟩
      · have hnx := Aside0.mk (show l = left - xs.length - (sumOf Atr.wt xs : Nat) by rw [ha.out, List.take_of_length_le (by omega)])
        clear ha hr
        go_wp2
        go_ret
        exact ⟨congrArg (fun r => Ending.returned (Value.int .i64 r)) (szV_of (by have := hnx.out; omega)), hb⟩
  · go_wp2
    go_ret
    exact ⟨congrArg (fun r => Ending.returned (Value.int .i64 r)) (szV_of (by omega)), Below.refl _ _⟩
theorem szNodeS_calls {ok : Nat → Prop} (A : Option Addr) (c : Nat) (xs : List Nd) (left : Int) (w : World) (h0 : 0 ≤ left) (h1 : left ≤ 1099511627776)
    (ih : ∀ n ∈ xs, ∀ (s : Sh) (l : Int) (W : World), 0 ≤ l → l ≤ 1099511627776 → NodeIs W ok n s →
      Calls Tryz.prog 26 #[.agg #[.int .i64 n.kind, .string n.pre, .string n.loc, .string n.uri, .slice s.Ad n.decls.length s.cd, .slice s.Aa n.attrs.length s.ca, .slice s.Ak n.kids.length s.ck, .string n.text], .int .i64 l] W fun e w' => e = .returned (.int .i64 (szV l (wt n))) ∧ Below W.heap.size W w') (hr : Row Kd.node w ok A xs) :
    Calls Tryz.prog 65 #[.slice A xs.length c, .int .i64 left] w fun e w' => e = .returned (.int .i64 (szV left (xs.length + sumOf wt xs))) ∧ Below w.heap.size w w' := by
  have hmax := hr.max
  have ih := Aside0.mk ih
  go_enter Tryz.func65, Tryz.ntmps65
  by_cases hlen : (xs.length : Int) ≤ left
  · go_wp2
    go_loopg [1, 5] xs.length (fun k s t wr => ∃ (l : Int) (j : Nat), s = .int .i64 l ∧ t = .int .i64 j ∧ j + k = xs.length ∧ 0 ≤ l ∧ l ≤ left ∧ Aside (l = left - xs.length - (sumOf wt (xs.take j) : Nat)) ∧ Below w.heap.size w wr)
    case atStart => exact ⟨left - xs.length, 0, rfl, rfl, by omega, by omega, by omega, (by simp [sumOf] : _ = _), Below.refl _ _⟩
    case round =>
      obtain ⟨l, j, rfl, rfl, hk, hl0, hl1, ha, hb⟩ := hrel
      by_cases hj : j < xs.length
      · obtain ⟨b, o, s', rfl, hbl, hs', d0, d1, d2, d3, d4, d5, d6, d7⟩ := node_at (hr.below hb) j hj
        have hstep := Aside0.mk (sumOf_take wt xs j hj)
        have hle := Aside0.mk (sumOf_le wt xs (j + 1))
        clear hr
        go_wp2_with fail
        refine (ih.out (xs[j]'hj) (List.getElem_mem hj) s' l wr hl0 (by omega) hs').mono ?_
        rintro e w1 ⟨rfl, hb1⟩
        rcases szV_cases l (wt (xs[j]'hj)) with ⟨e1, e2⟩ | ⟨e1, e2⟩
        · rw [e1]
          have hnx := Aside0.mk (show l - wt (xs[j]'hj) = left - xs.length - (sumOf wt (xs.take (j + 1)) : Nat) by rw [hstep.out, ha.out]; omega)
          clear e1
          go_wp2
          go_roundg (gk - 1)
          case measure => omega
          case rel => exact ⟨_, j + 1, rfl, by go_num, by omega, by omega, by omega, hnx.out, below_then hb hb1⟩
        · rw [e1]
          have hnx := Aside0.mk (show left < (xs.length + sumOf wt xs : Nat) by have := hle.out; rw [hstep.out] at this; have := ha.out; omega)
          clear e1 e2
          go_wp2
          go_ret
          exact ⟨congrArg (fun r => Ending.returned (Value.int .i64 r)) (szV_of (by have := hnx.out; omega)), below_then hb hb1⟩
      · have hnx := Aside0.mk (show l = left - xs.length - (sumOf wt xs : Nat) by rw [ha.out, List.take_of_length_le (by omega)])
        clear ha hr
        go_wp2
        go_ret
        exact ⟨congrArg (fun r => Ending.returned (Value.int .i64 r)) (szV_of (by have := hnx.out; omega)), hb⟩
  · go_wp2
    go_ret
    exact ⟨congrArg (fun r => Ending.returned (Value.int .i64 r)) (szV_of (by omega)), Below.refl _ _⟩
theorem szNode_calls : ∀ (N : Nat) (n : Nd) (s : Sh) (left : Int) (w : World) (ok : Nat → Prop), cnt n ≤ N → Fit n → 0 ≤ left → left ≤ 1099511627776 → NodeIs w ok n s →
    Calls Tryz.prog 26 #[.agg #[.int .i64 n.kind, .string n.pre, .string n.loc, .string n.uri, .slice s.Ad n.decls.length s.cd, .slice s.Aa n.attrs.length s.ca, .slice s.Ak n.kids.length s.ck, .string n.text], .int .i64 left] w fun e w' => e = .returned (.int .i64 (szV left (wt n))) ∧ Below w.heap.size w w' := by
  intro N
  induction N with
  | zero => intro n s left w ok h0; rw [cnt_eq] at h0; omega
  | succ N ih =>
  rintro n ⟨Ad, cd, Aa, ca, Ak, ck⟩ left w ok hN hfit h0 h1 hn
  obtain ⟨f1, f2, f3, f4, fd, fa, fk⟩ := hfit.out
  have f1 : n.pre.size ≤ 9223372036854775807 := f1
  have f2 : n.loc.size ≤ 9223372036854775807 := f2
  have f3 : n.uri.size ≤ 9223372036854775807 := f3
  have f4 : n.text.size ≤ 9223372036854775807 := f4
  have fd := Aside0.mk fd
  have fa := Aside0.mk fa
  have hw := Aside0.mk (show wt n = n.pre.size + n.loc.size + n.uri.size + (n.decls.length + sumOf Dcl.wt n.decls) + (n.attrs.length + sumOf Atr.wt n.attrs) + (n.kids.length + sumOf wt n.kids) + n.text.size by rw [wt_eq, wtL_eq])
  have rowd : Row Kd.dcl w ok Ad n.decls := hn.decls
  have rowa : Row Kd.atr w ok Aa n.attrs := hn.attrs
  have rowk : Row Kd.node w ok Ak n.kids := hn.kids
  have IH := Aside0.mk (show ∀ k ∈ n.kids, ∀ (s : Sh) (l : Int) (W : World), 0 ≤ l → l ≤ 1099511627776 → NodeIs W ok k s →
      Calls Tryz.prog 26 #[.agg #[.int .i64 k.kind, .string k.pre, .string k.loc, .string k.uri, .slice s.Ad k.decls.length s.cd, .slice s.Aa k.attrs.length s.ca, .slice s.Ak k.kids.length s.ck, .string k.text], .int .i64 l] W fun e w' => e = .returned (.int .i64 (szV l (wt k))) ∧ Below W.heap.size W w' from fun k hk s l W a b c => by
    obtain ⟨i, hi, rfl⟩ := List.getElem_of_mem hk
    exact ih _ s l W ok (by have := cnt_kid hi; omega) (fk _ hk) a b c)
  clear hn ih hfit fk hN
  simp only
  obtain ⟨W, hW, HB, hsz, HG⟩ := boxed w #[.int .i64 n.kind, .string n.pre, .string n.loc, .string n.uri, .slice Ad n.decls.length cd, .slice Aa n.attrs.length ca, .slice Ak n.kids.length ck, .string n.text] 57
  obtain ⟨c0, c1, c2, c3, c4, c5, c6, c7⟩ := box_cells HG
  have HW := Aside0.mk hW
  clear hW HG
  have rowd := rowd.below HB
  have rowa := rowa.below HB
  have rowk := rowk.below HB
  go_enter Tryz.func26, Tryz.ntmps26
  go_upto_region 1 with fail
  rw [← HW.out]
  by_cases g1 : (n.pre.size : Int) ≤ left
  case neg => go_wp2; go_ret; exact ⟨congrArg (fun r => Ending.returned (Value.int .i64 r)) (szV_of (by have := hw.out; omega)), HB⟩
  by_cases g2 : (n.loc.size : Int) ≤ left - n.pre.size
  case neg => go_wp2; go_ret; exact ⟨congrArg (fun r => Ending.returned (Value.int .i64 r)) (szV_of (by have := hw.out; omega)), HB⟩
  by_cases g3 : (n.uri.size : Int) ≤ left - n.pre.size - n.loc.size
  case neg => go_wp2; go_ret; exact ⟨congrArg (fun r => Ending.returned (Value.int .i64 r)) (szV_of (by have := hw.out; omega)), HB⟩
  go_wp2_with fail
  refine (szDeclS_calls Ad cd n.decls _ W (by omega) (by omega) fd.out rowd).mono ?_
  rintro e w1 ⟨rfl, hb1⟩
  rcases szV_cases (left - n.pre.size - n.loc.size - n.uri.size) (n.decls.length + sumOf Dcl.wt n.decls) with ⟨e1, e2⟩ | ⟨e1, e2⟩
  case inr =>
    rw [e1]
    have e2 := Aside0.mk e2
    clear e1
    go_wp2
    go_ret
    exact ⟨congrArg (fun r => Ending.returned (Value.int .i64 r)) (szV_of (by have := hw.out; have := e2.out; omega)), below_then HB hb1⟩
  rw [e1]
  generalize hD : n.decls.length + sumOf Dcl.wt n.decls = D at *
  clear e1
  obtain ⟨hc1, hf1⟩ := bcell hb1
  have k5 := (hc1 w.heap.size 5 hsz).trans c5
  have k6 := (hc1 w.heap.size 6 hsz).trans c6
  have k7 := (hc1 w.heap.size 7 hsz).trans c7
  go_wp2_with fail
  refine (szAttrS_calls Aa ca n.attrs _ w1 (by omega) (by omega) fa.out (rowa.below hb1)).mono ?_
  rintro e w2 ⟨rfl, hb2⟩
  rcases szV_cases (left - n.pre.size - n.loc.size - n.uri.size - D) (n.attrs.length + sumOf Atr.wt n.attrs) with ⟨e1, e3⟩ | ⟨e1, e3⟩
  case inr =>
    rw [e1]
    have e3 := Aside0.mk e3
    clear e1
    go_wp2
    go_ret
    exact ⟨congrArg (fun r => Ending.returned (Value.int .i64 r)) (szV_of (by have := hw.out; have := e3.out; omega)), below_then HB (below_then hb1 hb2)⟩
  rw [e1]
  generalize hAA : n.attrs.length + sumOf Atr.wt n.attrs = AA at *
  clear e1
  have hsz1 := Nat.lt_of_lt_of_le hsz hb1.size
  obtain ⟨hc2, hf2⟩ := bcell hb2
  have l6 := (hc2 w.heap.size 6 hsz1).trans k6
  have l7 := (hc2 w.heap.size 7 hsz1).trans k7
  go_wp2_with fail
  refine (szNodeS_calls Ak ck n.kids _ w2 (by omega) (by omega) IH.out ((rowk.below hb1).below hb2)).mono ?_
  rintro e w3 ⟨rfl, hb3⟩
  rcases szV_cases (left - n.pre.size - n.loc.size - n.uri.size - D - AA) (n.kids.length + sumOf wt n.kids) with ⟨e1, e4⟩ | ⟨e1, e4⟩
  case inr =>
    rw [e1]
    have e4 := Aside0.mk e4
    clear e1
    go_wp2
    go_ret
    exact ⟨congrArg (fun r => Ending.returned (Value.int .i64 r)) (szV_of (by have := hw.out; have := e4.out; omega)), below_then HB (below_then hb1 (below_then hb2 hb3))⟩
  rw [e1]
  generalize hKK : n.kids.length + sumOf wt n.kids = KK at *
  clear e1
  have hsz2 := Nat.lt_of_lt_of_le hsz1 hb2.size
  obtain ⟨hc3, hf3⟩ := bcell hb3
  have m7 := (hc3 w.heap.size 7 hsz2).trans l7
  go_wp2
  all_goals (go_ret; exact ⟨congrArg (fun r => Ending.returned (Value.int .i64 r)) (szV_of (by have := hw.out; omega)), below_then HB (below_then hb1 (below_then hb2 hb3))⟩)
end Go.Proofs.YtpcklgkpjmmakaaGreatDoor
