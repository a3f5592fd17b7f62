/- SpaceOf, FitsIn, TreeOk in plain Lean; append of a row to an own row. IndexFunc, ContainsFunc at Attrs; SpaceOf, Inner of the reference. slices.Grow, slices.Concat at Decls; the program's Inner. The program's SpaceOf: a range over slices.Backward. The program's SpaceOf. The program's FitsIn; TreeOk of both. -/
import Derived.Test.YtpcklgkpjmmakaaGreatDoorNodeOk
import Derived.Test.YtpcklgkpjmmakaaGreatDoorCopyS
import Derived.Test.YtpcklgkpjmmakaaGreatDoorSNodeOk
import Derived.Lib.AppendZeros
import Derived.RangeFuncNested
import Derived.RangeFuncBound
import Derived.RangeFuncCalls
import Derived.RangeFuncLeaves
import Derived.Shelf.Abstract
import Derived.Shelf.RegionOpen
import Derived.WalkKit
import Derived.OwnWalkIn
import Derived.TacticsInMore
import Derived.LoopNIn
import Derived.LoopIn
import Derived.BigRegionIn
import Derived.Laws.EntriesVeiled
namespace Go.Proofs.YtpcklgkpjmmakaaGreatDoor
open Go.RowKit Go.Lib
set_option linter.unusedVariables false
set_option linter.unusedSimpArgs false
/-- What a prefix stands for, and whether it does. -/
def spaceOf (l : List Dcl) (p : ByteArray) : ByteArray × Bool :=
  match l.reverse.find? (fun d => decide (d.pre = p)) with
  | some d => (d.uri, true)
  | none => (⟨#[]⟩, decide (p = ⟨#[]⟩))
theorem space_hit {l : List Dcl} {p : ByteArray} {m : Nat} (h : m < l.length) (e : (l[m]'h).pre = p) : spaceOf (l.take (m + 1)) p = ((l[m]'h).uri, true) := by
  rw [spaceOf, List.take_succ_eq_append_getElem h, List.reverse_append, List.reverse_singleton, List.singleton_append, List.find?_cons_of_pos (by simp [e])]
theorem space_miss {l : List Dcl} {p : ByteArray} {m : Nat} (h : m < l.length) (e : ¬ (l[m]'h).pre = p) : spaceOf (l.take (m + 1)) p = spaceOf (l.take m) p := by
  rw [spaceOf, spaceOf, List.take_succ_eq_append_getElem h, List.reverse_append, List.reverse_singleton, List.singleton_append, List.find?_cons_of_neg (by simp [e])]
/-- Does the prefix stand for this? -/
def meansB (l : List Dcl) (p u : ByteArray) : Bool := (spaceOf l p).2 && decide ((spaceOf l p).1 = u)
def attrFits (l : List Dcl) (a : Atr) : Bool := decide (a.pre = ⟨#[]⟩) || meansB l a.pre a.uri
def ownFits (l : List Dcl) (n : Nd) : Bool := decide (¬ n.kind = 1) || meansB l n.pre n.uri
mutual
def fitsIn : Nd → List Dcl → Bool
  | ⟨kind, pre, loc, uri, decls, attrs, kids, text⟩, l => (decide (¬ kind = 1) || meansB (l ++ decls) pre uri) && (attrs.all (attrFits (l ++ decls)) && fitsL kids (l ++ decls))
def fitsL : List Nd → List Dcl → Bool
  | [], _ => true
  | n :: r, l => fitsIn n l && fitsL r l
end
theorem fitsL_all (ks : List Nd) (l : List Dcl) : fitsL ks l = ks.all fun k => fitsIn k l := by
  induction ks with
  | nil => rfl
  | cons x ks ih => rw [fitsL, ih]; rfl
theorem fitsIn_eq (n : Nd) (l : List Dcl) : fitsIn n l = (ownFits (l ++ n.decls) n && (n.attrs.all (attrFits (l ++ n.decls)) && n.kids.all fun k => fitsIn k (l ++ n.decls))) := by
  cases n; rw [fitsIn, fitsL_all]; rfl
def treeOk (n : Nd) : Bool := decide (n.kind = 0) && (nodeOk n && fitsIn n [])
theorem wt_kid_decls {n k : Nd} (h : k ∈ n.kids) : n.decls.length + wt k ≤ wt n := by
  have h1 := sumOf_mem wt n.kids k h
  rw [← wtL_eq] at h1
  rw [wt_eq n]
  omega
theorem all_bad {α : Type} {p : α → Bool} {xs : List α} {j : Nat} (hj : j < xs.length) (hp : p (xs[j]'hj) = false) : xs.all p = false :=
  List.all_eq_false.2 ⟨_, List.getElem_mem hj, by simp [hp]⟩
section
variable {P : Program} {α : Type} {n : Nat} {enc : α → List Value} {hn : ∀ x, (enc x).length = n} {w : World} {ok : Nat → Prop}
/-- append of a row to a row of the call's own. -/
theorem wpList_append_rows {ops : Array Oper} {rest : List Oper} {o : Oper} {a : Act} {Q : Exit → Act → World → Prop} (hgd : o.guard = none) (s x : Operand) (t : TypeId)
    (ho : o.op = .call { callee := .builtin .append, args := #[s, x], argTypes := #[t, t] })
    (base : Nat) (e : TypeId) (i : TypeInfo) (z : Value) (bytes : Nat) (ht : P.underlying t = some (.slice e)) (hi : P.info? e = some i) (hz : i.zero = some z)
    (hsize : i.size = n) (hby : i.bytes = bytes) (hzs : z.cells.size = n) (hsz : 0 < n) (h1 : ∀ x, ∀ u ∈ enc x, u.oneCell' = true)
    (v : Value) (hs : a.eval s = v) (ys : List α) (hown : w.ownsRow base e n v ys.length (ys.flatMap enc)) (hv : ∀ k, v.ownBlock = some k → base ≤ k)
    (A : Option Addr) (c : Nat) (xs : List α) (hx : a.eval x = .slice A xs.length c) (hr : Row (Kd.flat n enc hn) w ok A xs)
    (h63 : ys.length + xs.length ≤ maxLen) (hbytes : (ys.length + xs.length) * bytes ≤ 140737488355328) (hbase : base ≤ w.heap.size)
    (h : ∀ v' w', w'.ownsRow base e n v' (ys ++ xs).length ((ys ++ xs).flatMap enc) → Below base w w' → wpList P ops Q rest (a.put o.dst v') w') : wpList P ops Q (o :: rest) a w := by
  cases A with
  | none =>
    have hx0 : xs = [] := by rcases hr.2 with h | ⟨b, o, hA, _⟩; exact h; cases hA
    subst hx0
    refine wpList_plain hgd fun K hK => ?_
    have hrun := run_append_owned_none (P := P) (w := w) base t o.type e i n ht hi v ys.length (ys.flatMap enc) hown
    have hx : a.eval x = .slice none 0 c := hx
    unfold Oper.wp
    simp [execOp, ho, resolve, invoke, builtin, hs, hx, append_none, hrun, Result.andThen]
    refine hK _ _ (h v w ?_ (Below.refl _ _))
    rw [List.append_nil]
    exact hown
  | some ad =>
    refine wpList_append_own w hgd s x t ho base e i z n bytes ht hi hz hsize hby hzs hsz v ys.length (ys.flatMap enc) hs hown ad xs.length c (xs.flatMap enc) hx (flat_length hn xs) (flat_news hsz hr) (flat_one h1 xs) h63 hbytes hbase ?_
    intro v' w' hown' hgrow _
    refine h v' w' ?_ ((Below.refl base w).grown hgrow hbase hv)
    rw [List.length_append, List.flatMap_append]
    exact hown'
end
theorem own_ge {w : World} {base : Nat} {e : TypeId} {sz : Nat} {v : Value} {n : Nat} {cells : List Value} (h : w.ownsRow base e sz v n cells) : ∀ k, v.ownBlock = some k → base ≤ k := fun k hk => (h.lt k hk).1
theorem dcl_row {w : World} {base : Nat} {e : TypeId} {v : Value} {xs : List Dcl} (h : w.ownsRow base e 2 v xs.length (xs.flatMap Dcl.cells)) : ∃ A c, v = .slice A xs.length c ∧ xs.length ≤ c ∧ Row Kd.dcl w (fun k => base ≤ k) A xs := by
  have h' := flat_own (enc := Dcl.cells) (n := 2) (hn := fun _ => rfl) (ok := fun k => base ≤ k) h
  exact h'.row (ok' := fun k => base ≤ k) (fun _ h => h) (fun k hk => (h'.base_le k hk).1)
end Go.Proofs.YtpcklgkpjmmakaaGreatDoor
namespace Go.Proofs.YtpcklgkpjmmakaaGreatDoor
open Go.RowKit Go.Lib
set_option linter.unusedVariables false
set_option linter.unusedSimpArgs false
set_option maxHeartbeats 4000000
set_option maxRecDepth 20000
theorem IndexFunc_atr {ok : Nat → Prop} (p : Atr → Bool) (g : Nat) (lb : Array Value) (eg : ∀ args w, (callFunc g args).run Tryz.prog w = .ok (.enter g args) w) (A : Option Addr) (xs : List Atr) (c : Nat) (w : World)
    (h : Row Kd.atr w ok A xs) (hp : ∀ W x, x ∈ xs → Below w.heap.size w W → Calls Tryz.prog g (#[.agg #[.string x.pre, .string x.loc, .string x.uri, .string x.val]] ++ lb) W fun e w' => e = .returned (.bool (p x)) ∧ Below W.heap.size W w') :
    Calls Tryz.prog 140 #[.slice A xs.length c, .func (.func g) #[] lb] w fun e w' => e = .returned (.int .i64 (idxB p xs)) ∧ Below w.heap.size w w' := by
  have hm := h.max
  go_enter Tryz.func140, Tryz.ntmps140
  go_wp2
  go_loopg [5, 8] xs.length (fun k _ i wr => ∃ (j : Nat), i = .int .i64 j ∧ j + k = xs.length ∧ Aside (∀ y ∈ xs.take j, p y = false) ∧ Below w.heap.size w wr)
  case atStart => exact ⟨0, rfl, by omega, (fun y hy => by simp at hy), Below.refl _ _⟩
  case round =>
    obtain ⟨j, rfl, hk, ha, hb⟩ := hrel
    by_cases hlt : j < xs.length
    · obtain ⟨b, o, rfl, hbl, d0, d1, d2, d3⟩ := atr_at (h.below hb) j hlt
      have hcall := hp wr xs[j] (List.getElem_mem hlt) hb
      clear h hp
      cases hq : p xs[j] with
      | true =>
        have hfin := Aside0.mk (idxB_hit p xs j hlt ha.out hq)
        rw [hq] at hcall
        clear hq
        go_wp2_with (go_at_fn g; refine hcall.mono ?_; rintro e w' ⟨rfl, hb'⟩)
        go_ret
        exact ⟨by rw [hfin.out]; rfl, below_then hb hb'⟩
      | false =>
        have hfin := Aside0.mk (take_miss hlt ha.out hq)
        rw [hq] at hcall
        clear hq
        go_wp2_with (go_at_fn g; refine hcall.mono ?_; rintro e w' ⟨rfl, hb'⟩)
        go_roundg (gk - 1)
        case measure => omega
        case rel => exact ⟨j + 1, by go_num, by omega, hfin.out, below_then hb hb'⟩
    · obtain rfl : j = xs.length := by omega
      have hfin := Aside0.mk (idxB_miss p xs (by have := ha.out; rwa [List.take_length] at this))
      clear ha
      go_wp2
      go_ret
      exact ⟨by rw [hfin.out]; rfl, hb⟩
theorem ContainsFunc_atr {ok : Nat → Prop} (p : Atr → Bool) (g : Nat) (lb : Array Value) (eg : ∀ args w, (callFunc g args).run Tryz.prog w = .ok (.enter g args) w) (A : Option Addr) (xs : List Atr) (c : Nat) (w : World)
    (h : Row Kd.atr w ok A xs) (hp : ∀ W x, x ∈ xs → Below w.heap.size w W → Calls Tryz.prog g (#[.agg #[.string x.pre, .string x.loc, .string x.uri, .string x.val]] ++ lb) W fun e w' => e = .returned (.bool (p x)) ∧ Below W.heap.size W w') :
    Calls Tryz.prog 119 #[.slice A xs.length c, .func (.func g) #[] lb] w fun e w' => e = .returned (.bool (xs.any p)) ∧ Below w.heap.size w w' := by
  rw [← idxB_any]
  go_enter Tryz.func119, Tryz.ntmps119
  go_wp2_with (go_at_call 140; refine (IndexFunc_atr p g lb eg _ _ _ _ h hp).mono ?_; rintro e w1 ⟨rfl, hb⟩)
  go_ret
  exact ⟨rfl, hb⟩
theorem specSpaceOf_calls {ok : Nat → Prop} (A : Option Addr) (c : Nat) (l : List Dcl) (p : ByteArray) (w : World) (hr : Row Kd.dcl w ok A l) :
    Calls Tryz.prog 105 #[.slice A l.length c, .string p] w fun e w' => e = .returned (.tuple #[.string (spaceOf l p).1, .bool (spaceOf l p).2]) ∧ Below w.heap.size w w' := by
  have hmax := hr.max
  obtain ⟨R, hR⟩ : ∃ R, R = spaceOf l p := ⟨_, rfl⟩
  rw [← hR]
  have HR := Aside0.mk (show R = spaceOf (l.take l.length) p by rw [List.take_length]; exact hR)
  clear hR
  go_enter Tryz.func105, Tryz.ntmps105
  go_wp2
  go_loopg [6] l.length (fun k i wr => ∃ (v : Int), i = .int .i64 v ∧ v = (k : Int) - 1 ∧ k ≤ l.length ∧ Aside (R = spaceOf (l.take k) p) ∧ Below w.heap.size w wr)
  case atStart => exact ⟨_, rfl, rfl, Nat.le_refl _, HR.out, Below.refl _ _⟩
  case round =>
    obtain ⟨v, rfl, hk, hkl, ha, hb⟩ := hrel
    rcases gk with _ | m
    · have hv : v < 0 := by omega
      clear hk hkl
      have hfin := Aside0.mk (show R = (⟨#[]⟩, decide (p = ⟨#[]⟩)) from ha.out)
      clear ha
      by_cases hp : p = ⟨#[]⟩
      · have hfin := Aside0.mk (show R = (⟨#[]⟩, true) by rw [hfin.out, decide_eq_true hp])
        subst hp
        go_wp2
        go_ret2
        exact ⟨by rw [hfin.out]; rfl, hb⟩
      · have hfin := Aside0.mk (show R = (⟨#[]⟩, false) by rw [hfin.out, decide_eq_false hp])
        have n1 := str_ne0 hp
        have n2 := str_neE hp
        clear hp
        go_wp2
        go_ret2
        exact ⟨by rw [hfin.out]; rfl, hb⟩
    · obtain rfl : v = (m : Int) := by omega
      have m1 : m < l.length := by omega
      have i1 : (m : Int) < (l.length : Int) := by omega
      obtain ⟨b, o, rfl, hbl, d0, d1⟩ := dcl_at (hr.below hb) m m1
      by_cases e : (l[m]'m1).pre = p
      · have hfin := Aside0.mk (show R = ((l[m]'m1).uri, true) by rw [ha.out, space_hit m1 e])
        rw [e] at d0
        clear ha e hk
        go_wp2
        go_ret2
        exact ⟨by rw [hfin.out]; rfl, hb⟩
      · have hnx := Aside0.mk (show R = spaceOf (l.take m) p by rw [ha.out, space_miss m1 e])
        have n1 := str_neb e
        clear ha e hk
        go_wp2
        go_roundg m
        case measure => omega
        case rel => exact ⟨(m : Int) - 1, by go_num, rfl, by omega, hnx.out, hb⟩
theorem inner_calls_spec {o1 o2 : Nat → Prop} (A B : Option Addr) (c1 c2 : Nat) (l m : List Dcl) (w : World) (h1 : Row Kd.dcl w o1 A l) (h2 : Row Kd.dcl w o2 B m) (hl : l.length ≤ 2097152) (hm : m.length ≤ 2097152) :
    Calls Tryz.prog 104 #[.slice A l.length c1, .slice B m.length c2] w (NewRow Kd.dcl w (l ++ m)) := by
  obtain ⟨i, hi, hz0, hz1, hz2⟩ := info_parts Tryz.info_Decl
  have hzs : ((.agg #[.string ⟨#[]⟩, .string ⟨#[]⟩]) : Value).cells.size = 2 := by rfl
  have Hz2 := Aside0.mk hz2
  clear hz2
  have hown0 := Aside0.mk (World.ownsRow_made (e := 122) (size := 2) w #[] 0 (Nat.le_refl _) (Nat.zero_le _) (by simp))
  have hb0 : Below w.heap.size w (w.alloc (.cells #[] 122)) := below_alloc (Below.refl _ _) _
  have H1 := Aside0.mk (h1.below hb0)
  have H2 := Aside0.mk (fun W1 (hb : Below w.heap.size w W1) => h2.below hb)
  clear h1 h2
  go_enter Tryz.func104, Tryz.ntmps104
  go_wp2_with (at_builtin; refine wpList_append_rows (enc := Dcl.cells) (hn := fun _ => rfl) rfl _ _ 24 rfl w.heap.size 122 i (.agg #[.string ⟨#[]⟩, .string ⟨#[]⟩]) _ Tryz.underlying24 hi hz0 hz1 rfl hzs (by decide) dcl_one _ rfl [] hown0.out ?q0 A c1 l rfl H1.out ?q1 ?q2 ?q3 ?_)
  case q0 => exact own_ge hown0.out
  case q1 => simp [maxLen]; omega
  case q2 => rw [Hz2.out, List.length_nil]; omega
  case q3 => simp
  intro v1 w1 hown1 hb1
  try rw [List.nil_append] at hown1
  have hb1 := hb0.trans hb1
  have hge := Aside0.mk (own_ge hown1)
  have hown1 := Aside0.mk hown1
  go_wp2_with (at_builtin; refine wpList_append_rows (enc := Dcl.cells) (hn := fun _ => rfl) rfl _ _ 24 rfl w.heap.size 122 i (.agg #[.string ⟨#[]⟩, .string ⟨#[]⟩]) _ Tryz.underlying24 hi hz0 hz1 rfl hzs (by decide) dcl_one _ rfl l hown1.out ?q0 B c2 m rfl (H2.out _ hb1) ?q1 ?q2 ?q3 ?_)
  case q0 => exact hge.out
  case q1 => unfold maxLen; omega
  case q2 => rw [Hz2.out]; omega
  case q3 => exact hb1.size
  intro v2 w2 hown2 hb2
  obtain ⟨A', c', rfl, hc, hrow⟩ := dcl_row (xs := l ++ m) (show w2.ownsRow w.heap.size 122 2 v2 (l ++ m).length ((l ++ m).flatMap Dcl.cells) by rw [List.length_append, List.flatMap_append]; exact hown2)
  clear hown2
  go_wp2
  go_ret
  exact ⟨⟨A', c', rfl, hc, hrow⟩, hb1.trans hb2⟩
theorem meansB_eq (l : List Dcl) (p u : ByteArray) : meansB l p u = ((spaceOf l p).2 && decide ((spaceOf l p).1 = u)) := rfl
theorem specFitsIn_calls : ∀ (N : Nat) (n : Nd) (s : Sh) (A : Option Addr) (c : Nat) (l : List Dcl) (w : World) (ok o2 : Nat → Prop), cnt n ≤ N → l.length + wt n ≤ 2097152 → NodeIs w ok n s → Row Kd.dcl w o2 A l →
    Calls Tryz.prog 93 #[.agg #[.int .i64 n.kind, .string n.pre, .string n.loc, .string n.uri, .slice s.Ad n.decls.length s.cd, .slice s.Aa n.attrs.length s.ca, .slice s.Ak n.kids.length s.ck, .string n.text], .slice A l.length c] w fun e w' => e = .returned (.bool (fitsIn n l)) ∧ Below w.heap.size w w' := by
  intro N
  induction N with
  | zero => intro n s A c l w ok o2 h0; rw [cnt_eq] at h0; omega
  | succ N ih =>
  rintro ⟨kind, pre, loc, uri, decls, attrs, kids, text⟩ ⟨Ad, cd, Aa, ca, Ak, ck⟩ A c l w ok o2 hN hwt hn hl
  have hll : l.length ≤ 2097152 := by omega
  have hdm : decls.length ≤ 2097152 := by rw [wt] at hwt; omega
  have IH := Aside0.mk (fun i (hi : i < kids.length) s W A c (l2 : List Dcl) o2 (h1 : l2.length = l.length + decls.length) => ih (kids[i]'hi) s A c l2 W ok o2
    (Nat.le_of_lt_succ (Nat.lt_of_lt_of_le (cnt_kid (n := ⟨kind, pre, loc, uri, decls, attrs, kids, text⟩) (i := i) hi) hN))
    (by have : decls.length + wt (kids[i]'hi) ≤ _ := wt_kid_decls (n := ⟨kind, pre, loc, uri, decls, attrs, kids, text⟩) (List.getElem_mem hi); omega))
  obtain ⟨R, hR⟩ : ∃ R, R = fitsIn ⟨kind, pre, loc, uri, decls, attrs, kids, text⟩ l := ⟨_, rfl⟩
  have HR := Aside0.mk (show R = ((decide (¬ kind = 1) || meansB (l ++ decls) pre uri) && (attrs.all (attrFits (l ++ decls)) && kids.all fun k => fitsIn k (l ++ decls))) from hR.trans (fitsIn_eq _ l))
  rw [← hR]
  obtain ⟨W, hW, HB, hsz, HG⟩ := boxed w #[.int .i64 kind, .string pre, .string loc, .string uri, .slice Ad decls.length cd, .slice Aa attrs.length ca, .slice Ak kids.length ck, .string text] 28
  have HL := Aside0.mk (inner_calls_spec A Ad c cd l decls W (hl.below HB) (hn.decls.below HB) hll hdm)
  have Hat := Aside0.mk (show ∀ W1, Below W.heap.size W W1 → Row Kd.atr W1 ok Aa attrs from fun W1 hb => hn.attrs.below (below_then HB hb))
  have Hkd := Aside0.mk (show ∀ W1, Below W.heap.size W W1 → Row Kd.node W1 ok Ak kids from fun W1 hb => hn.kids.below (below_then HB hb))
  have ham : attrs.length ≤ 9223372036854775807 := hn.attrs.max
  have hkm : kids.length ≤ 9223372036854775807 := hn.kids.max
  have K := Aside0.mk (fun W1 hb => box_cells (((hb : Below W.heap.size W W1).block _ hsz).trans HG))
  obtain ⟨L, hL⟩ : ∃ L, L = l ++ decls := ⟨_, rfl⟩
  have hLl := Aside0.mk (show L.length = l.length + decls.length by rw [hL, List.length_append])
  rw [← hL] at HL HR
  have HW := Aside0.mk hW
  clear hW
  simp only at ⊢
  clear HG hn hl ih hN hwt hR hL
  go_enter Tryz.func93, Tryz.ntmps93
  go_upto_region 1 with fail
  rw [← HW.out]
  obtain ⟨a0, a1, a2, a3, a4, a5, a6, a7⟩ := K.out _ (Below.refl _ _)
  go_wp2_with fail
  refine (HL.out).mono ?_
  rintro e w1 ⟨⟨A1, c1, rfl, hc1, hr1⟩, hb1⟩
  clear a0 a1 a2 a3 a4 a5 a6 a7
  have hLm := hr1.max
  have HRow := Aside0.mk (fun W1 (hb : Below w1.heap.size w1 W1) => hr1.below hb)
  clear hr1
  by_cases hk : kind = 1
  case neg =>
    have HR2 := Aside0.mk (show R = (attrs.all (attrFits L) && kids.all fun k => fitsIn k L) by rw [HR.out, decide_eq_true hk]; rfl)
    have bk : (kind == 1) = false := by simpa using hk
    have hbq : Below w1.heap.size w1 w1 := Below.refl _ _
    have hbw := below_then hb1 hbq
    obtain ⟨a0, a1, a2, a3, a4, a5, a6, a7⟩ := K.out _ hbw
    go_wp2
    go_loopg [8] attrs.length (fun k i wr => ∃ (j : Nat), i = .int .i64 j ∧ j + k = attrs.length ∧ Aside (∀ y ∈ attrs.take j, attrFits L y = true) ∧ Below w1.heap.size w1 wr)
    case atStart => exact ⟨0, rfl, by omega, (fun y hy => by simp at hy), hbq⟩
    case round =>
      clear a0 a1 a2 a3 a4 a5 a6 a7 hbw hbq
      obtain ⟨j, rfl, hk, ha, hb⟩ := hrel
      have hbw := below_then hb1 hb
      obtain ⟨a0, a1, a2, a3, a4, a5, a6, a7⟩ := K.out _ hbw
      by_cases hlt : j < attrs.length
      · obtain ⟨b, o, rfl, hbl, d0, d1, d2, d3⟩ := atr_at (Hat.out _ hbw) j hlt
        have i1 : (j : Int) < (attrs.length : Int) := by omega
        obtain ⟨p, hp⟩ : ∃ p, p = (attrs[j]'hlt).pre := ⟨_, rfl⟩
        obtain ⟨q, hq⟩ : ∃ q, q = (attrs[j]'hlt).uri := ⟨_, rfl⟩
        have hfa := Aside0.mk (show attrFits L (attrs[j]'hlt) = (decide (p = ⟨#[]⟩) || meansB L p q) by rw [hp, hq]; rfl)
        rw [← hp] at d0
        rw [← hq] at d2
        clear hp hq d1 d3
        have HS := Aside0.mk (specSpaceOf_calls A1 c1 L p wr (HRow.out _ hb))
        obtain ⟨u, hu⟩ : ∃ u, u = (spaceOf L p).1 := ⟨_, rfl⟩
        obtain ⟨t, ht⟩ : ∃ t, t = (spaceOf L p).2 := ⟨_, rfl⟩
        have hme := Aside0.mk (show meansB L p q = (t && decide (u = q)) by rw [meansB_eq, hu, ht])
        rw [← hu, ← ht] at HS
        clear hu ht
        go_wp2_with fail
        refine (HS.out).mono ?_
        rintro e w2 ⟨rfl, hb2⟩
        have hb02 := below_then hb hb2
        clear a0 a1 a2 a3 a4 a5 a6 a7
        obtain ⟨a0, a1, a2, a3, a4, a5, a6, a7⟩ := K.out _ (below_then hb1 hb02)
        have e0 := (hb2.cell (p := ⟨b, o + j * 4, none⟩) hbl).trans d0
        have e2 := (hb2.cell (p := ⟨b, o + j * 4 + 2, none⟩) hbl).trans d2
        clear d0 d2
        by_cases hp0 : p = ⟨#[]⟩
        · have hgood := Aside0.mk (show attrFits L (attrs[j]'hlt) = true by rw [hfa.out, decide_eq_true hp0]; rfl)
          subst hp0
          have hnx := Aside0.mk (take_all hlt ha.out hgood.out)
          clear ha
          go_wp2
          go_roundg (gk - 1)
          case measure => omega
          case rel => exact ⟨j + 1, by go_num, by omega, hnx.out, hb02⟩
        · have hfa := Aside0.mk (hfa.out.trans (show _ = (t && decide (u = q)) by rw [decide_eq_false hp0, hme.out]; rfl))
          have n1 := str_ne0 hp0
          have n2 := str_neE hp0
          clear hp0
          cases t with
          | false =>
            have hfin := Aside0.mk (show R = false by rw [HR.out, all_bad hlt (show attrFits L (attrs[j]'hlt) = false by rw [hfa.out]; rfl)]; simp)
            clear ha
            go_wp2
            go_ret
            exact ⟨by rw [hfin.out]; rfl, below_then HB (below_then hb1 hb02)⟩
          | true =>
            by_cases hu0 : u = q
            · have hgood := Aside0.mk (show attrFits L (attrs[j]'hlt) = true by rw [hfa.out, decide_eq_true hu0]; rfl)
              subst hu0
              have hnx := Aside0.mk (take_all hlt ha.out hgood.out)
              clear ha
              go_wp2
              go_roundg (gk - 1)
              case measure => omega
              case rel => exact ⟨j + 1, by go_num, by omega, hnx.out, hb02⟩
            · have hfin := Aside0.mk (show R = false by rw [HR.out, all_bad hlt (show attrFits L (attrs[j]'hlt) = false by rw [hfa.out, decide_eq_false hu0]; rfl)]; simp)
              have n3 := str_neb hu0
              clear ha hu0
              go_wp2
              go_ret
              exact ⟨by rw [hfin.out]; rfl, below_then HB (below_then hb1 hb02)⟩
      · have HR := Aside0.mk (show R = kids.all fun k => fitsIn k L by
          have hall := ha.out
          rw [List.take_of_length_le (by omega)] at hall
          rw [HR2.out, List.all_eq_true.2 hall]; rfl)
        clear ha
        go_wp2
        go_loopg [11] kids.length (fun k i wr => ∃ (j : Nat), i = .int .i64 j ∧ j + k = kids.length ∧ Aside (∀ y ∈ kids.take j, fitsIn y L = true) ∧ Below w1.heap.size w1 wr)
        case atStart => exact ⟨0, rfl, by omega, (fun y hy => by simp at hy), hb⟩
        case round =>
          clear a0 a1 a2 a3 a4 a5 a6 a7 hbw hb hk hlt
          obtain ⟨j, rfl, hk, ha, hb⟩ := hrel
          have hbw := below_then hb1 hb
          obtain ⟨a0, a1, a2, a3, a4, a5, a6, a7⟩ := K.out _ hbw
          by_cases hlt : j < kids.length
          · obtain ⟨b, o, s', rfl, hbl, hs', d0, d1, d2, d3, d4, d5, d6, d7⟩ := node_at (Hkd.out _ hbw) j hlt
            have HI := Aside0.mk (IH.out j hlt s' wr A1 c1 L _ hLl.out hs' (HRow.out _ hb))
            clear hs'
            cases hq : fitsIn (kids[j]'hlt) L with
            | false =>
              have hfin := Aside0.mk (show R = false by rw [HR.out, all_bad hlt hq])
              rw [hq] at HI
              clear hq ha
              go_wp2_with fail
              refine (HI.out).mono ?_
              rintro e w2 ⟨rfl, hb2⟩
              go_wp2
              go_ret
              exact ⟨by rw [hfin.out]; rfl, below_then HB (below_then hbw hb2)⟩
            | true =>
              have hnx := Aside0.mk (take_all hlt ha.out hq)
              rw [hq] at HI
              clear hq ha
              go_wp2_with fail
              refine (HI.out).mono ?_
              rintro e w2 ⟨rfl, hb2⟩
              go_wp2
              go_roundg (gk - 1)
              case measure => omega
              case rel => exact ⟨j + 1, by go_num, by omega, hnx.out, below_then hb hb2⟩
          · have hfin := Aside0.mk (show R = true by
              have hall := ha.out
              rw [List.take_of_length_le (by omega)] at hall
              rw [HR.out, List.all_eq_true.2 hall])
            clear ha
            go_wp2
            go_ret
            exact ⟨by rw [hfin.out]; rfl, below_then HB hbw⟩
  subst hk
  have HR := Aside0.mk (show R = (meansB L pre uri && (attrs.all (attrFits L) && kids.all fun k => fitsIn k L)) by rw [HR.out]; rfl)
  have HS := Aside0.mk (specSpaceOf_calls A1 c1 L pre w1 (HRow.out _ (Below.refl _ _)))
  obtain ⟨u, hu⟩ : ∃ u, u = (spaceOf L pre).1 := ⟨_, rfl⟩
  obtain ⟨t, ht⟩ : ∃ t, t = (spaceOf L pre).2 := ⟨_, rfl⟩
  have hme := Aside0.mk (show meansB L pre uri = (t && decide (u = uri)) by rw [meansB_eq, hu, ht])
  rw [← hu, ← ht] at HS
  clear hu ht
  obtain ⟨a0, a1, a2, a3, a4, a5, a6, a7⟩ := K.out _ hb1
  go_wp2_with fail
  refine (HS.out).mono ?_
  rintro e w3 ⟨rfl, hbq⟩
  clear a0 a1 a2 a3 a4 a5 a6 a7
  obtain ⟨a0, a1, a2, a3, a4, a5, a6, a7⟩ := K.out _ (below_then hb1 hbq)
  cases t with
  | false =>
    have hfin := Aside0.mk (show R = false by rw [HR.out, hme.out]; rfl)
    go_wp2
    go_ret
    exact ⟨by rw [hfin.out]; rfl, below_then HB (below_then hb1 hbq)⟩
  | true =>
    by_cases hu0 : u = uri
    · have HR2 := Aside0.mk (show R = (attrs.all (attrFits L) && kids.all fun k => fitsIn k L) by rw [HR.out, hme.out, decide_eq_true hu0]; rfl)
      subst hu0
      clear a0 a1 a2 a3 a4 a5 a6 a7
      have hbw := below_then hb1 hbq
      obtain ⟨a0, a1, a2, a3, a4, a5, a6, a7⟩ := K.out _ hbw
      go_wp2
      go_loopg [8] attrs.length (fun k i wr => ∃ (j : Nat), i = .int .i64 j ∧ j + k = attrs.length ∧ Aside (∀ y ∈ attrs.take j, attrFits L y = true) ∧ Below w1.heap.size w1 wr)
      case atStart => exact ⟨0, rfl, by omega, (fun y hy => by simp at hy), hbq⟩
      case round =>
        clear a0 a1 a2 a3 a4 a5 a6 a7 hbw hbq
        obtain ⟨j, rfl, hk, ha, hb⟩ := hrel
        have hbw := below_then hb1 hb
        obtain ⟨a0, a1, a2, a3, a4, a5, a6, a7⟩ := K.out _ hbw
        by_cases hlt : j < attrs.length
        · obtain ⟨b, o, rfl, hbl, d0, d1, d2, d3⟩ := atr_at (Hat.out _ hbw) j hlt
          have i1 : (j : Int) < (attrs.length : Int) := by omega
          obtain ⟨p, hp⟩ : ∃ p, p = (attrs[j]'hlt).pre := ⟨_, rfl⟩
          obtain ⟨q, hq⟩ : ∃ q, q = (attrs[j]'hlt).uri := ⟨_, rfl⟩
          have hfa := Aside0.mk (show attrFits L (attrs[j]'hlt) = (decide (p = ⟨#[]⟩) || meansB L p q) by rw [hp, hq]; rfl)
          rw [← hp] at d0
          rw [← hq] at d2
          clear hp hq d1 d3
          have HS := Aside0.mk (specSpaceOf_calls A1 c1 L p wr (HRow.out _ hb))
          obtain ⟨u, hu⟩ : ∃ u, u = (spaceOf L p).1 := ⟨_, rfl⟩
          obtain ⟨t, ht⟩ : ∃ t, t = (spaceOf L p).2 := ⟨_, rfl⟩
          have hme := Aside0.mk (show meansB L p q = (t && decide (u = q)) by rw [meansB_eq, hu, ht])
          rw [← hu, ← ht] at HS
          clear hu ht
          go_wp2_with fail
          refine (HS.out).mono ?_
          rintro e w2 ⟨rfl, hb2⟩
          have hb02 := below_then hb hb2
          clear a0 a1 a2 a3 a4 a5 a6 a7
          obtain ⟨a0, a1, a2, a3, a4, a5, a6, a7⟩ := K.out _ (below_then hb1 hb02)
          have e0 := (hb2.cell (p := ⟨b, o + j * 4, none⟩) hbl).trans d0
          have e2 := (hb2.cell (p := ⟨b, o + j * 4 + 2, none⟩) hbl).trans d2
          clear d0 d2
          by_cases hp0 : p = ⟨#[]⟩
          · have hgood := Aside0.mk (show attrFits L (attrs[j]'hlt) = true by rw [hfa.out, decide_eq_true hp0]; rfl)
            subst hp0
            have hnx := Aside0.mk (take_all hlt ha.out hgood.out)
            clear ha
            go_wp2
            go_roundg (gk - 1)
            case measure => omega
            case rel => exact ⟨j + 1, by go_num, by omega, hnx.out, hb02⟩
          · have hfa := Aside0.mk (hfa.out.trans (show _ = (t && decide (u = q)) by rw [decide_eq_false hp0, hme.out]; rfl))
            have n1 := str_ne0 hp0
            have n2 := str_neE hp0
            clear hp0
            cases t with
            | false =>
              have hfin := Aside0.mk (show R = false by rw [HR.out, all_bad hlt (show attrFits L (attrs[j]'hlt) = false by rw [hfa.out]; rfl)]; simp)
              clear ha
              go_wp2
              go_ret
              exact ⟨by rw [hfin.out]; rfl, below_then HB (below_then hb1 hb02)⟩
            | true =>
              by_cases hu0 : u = q
              · have hgood := Aside0.mk (show attrFits L (attrs[j]'hlt) = true by rw [hfa.out, decide_eq_true hu0]; rfl)
                subst hu0
                have hnx := Aside0.mk (take_all hlt ha.out hgood.out)
                clear ha
                go_wp2
                go_roundg (gk - 1)
                case measure => omega
                case rel => exact ⟨j + 1, by go_num, by omega, hnx.out, hb02⟩
              · have hfin := Aside0.mk (show R = false by rw [HR.out, all_bad hlt (show attrFits L (attrs[j]'hlt) = false by rw [hfa.out, decide_eq_false hu0]; rfl)]; simp)
                have n3 := str_neb hu0
                clear ha hu0
                go_wp2
                go_ret
                exact ⟨by rw [hfin.out]; rfl, below_then HB (below_then hb1 hb02)⟩
        · have HR := Aside0.mk (show R = kids.all fun k => fitsIn k L by
            have hall := ha.out
            rw [List.take_of_length_le (by omega)] at hall
            rw [HR2.out, List.all_eq_true.2 hall]; rfl)
          clear ha
          go_wp2
          go_loopg [11] kids.length (fun k i wr => ∃ (j : Nat), i = .int .i64 j ∧ j + k = kids.length ∧ Aside (∀ y ∈ kids.take j, fitsIn y L = true) ∧ Below w1.heap.size w1 wr)
          case atStart => exact ⟨0, rfl, by omega, (fun y hy => by simp at hy), hb⟩
          case round =>
            clear a0 a1 a2 a3 a4 a5 a6 a7 hbw hb hk hlt
            obtain ⟨j, rfl, hk, ha, hb⟩ := hrel
            have hbw := below_then hb1 hb
            obtain ⟨a0, a1, a2, a3, a4, a5, a6, a7⟩ := K.out _ hbw
            by_cases hlt : j < kids.length
            · obtain ⟨b, o, s', rfl, hbl, hs', d0, d1, d2, d3, d4, d5, d6, d7⟩ := node_at (Hkd.out _ hbw) j hlt
              have HI := Aside0.mk (IH.out j hlt s' wr A1 c1 L _ hLl.out hs' (HRow.out _ hb))
              clear hs'
              cases hq : fitsIn (kids[j]'hlt) L with
              | false =>
                have hfin := Aside0.mk (show R = false by rw [HR.out, all_bad hlt hq])
                rw [hq] at HI
                clear hq ha
                go_wp2_with fail
                refine (HI.out).mono ?_
                rintro e w2 ⟨rfl, hb2⟩
                go_wp2
                go_ret
                exact ⟨by rw [hfin.out]; rfl, below_then HB (below_then hbw hb2)⟩
              | true =>
                have hnx := Aside0.mk (take_all hlt ha.out hq)
                rw [hq] at HI
                clear hq ha
                go_wp2_with fail
                refine (HI.out).mono ?_
                rintro e w2 ⟨rfl, hb2⟩
                go_wp2
                go_roundg (gk - 1)
                case measure => omega
                case rel => exact ⟨j + 1, by go_num, by omega, hnx.out, below_then hb hb2⟩
            · have hfin := Aside0.mk (show R = true by
                have hall := ha.out
                rw [List.take_of_length_le (by omega)] at hall
                rw [HR.out, List.all_eq_true.2 hall])
              clear ha
              go_wp2
              go_ret
              exact ⟨by rw [hfin.out]; rfl, below_then HB hbw⟩
    · have hfin := Aside0.mk (show R = false by rw [HR.out, hme.out, decide_eq_false hu0]; rfl)
      have n3 := str_neb hu0
      clear hu0
      go_wp2
      go_ret
      exact ⟨by rw [hfin.out]; rfl, below_then HB (below_then hb1 hbq)⟩
end Go.Proofs.YtpcklgkpjmmakaaGreatDoor
namespace Go.Proofs.YtpcklgkpjmmakaaGreatDoor
open Go.RowKit Go.Lib
set_option linter.unusedVariables false
set_option linter.unusedSimpArgs false
set_option maxHeartbeats 4000000
set_option maxRecDepth 20000
theorem grow_own (w : World) (k cap : Nat) (e : TypeId) (z : Value) (hz : z.cells.size = 2) (hk : k ≤ cap) (hm : cap ≤ maxLen) :
    (w.drew.alloc (.cells (Builtin.zeroCells z.cells k ++ Builtin.zeroCells z.cells (cap - k)) e)).ownsRow w.heap.size e 2 (.slice (some ⟨w.heap.size, 0, none⟩) 0 cap) 0 [] :=
  World.ownsRow_made (base := w.heap.size) (size := 2) w.drew _ cap (Nat.le_refl _) hm (by rw [Array.size_append, size_zeroCells, size_zeroCells, hz]; omega)
theorem grow_calls (k : Nat) (w : World) (hk : k ≤ 4194304) :
    Calls Tryz.prog 160 #[.slice none 0 0, .int .i64 k] w fun e w' => (∃ v, e = .returned v ∧ w'.ownsRow w.heap.size 122 2 v 0 []) ∧ Below w.heap.size w w' := by
  obtain ⟨i, hi, hz0, hz1, hz2⟩ := info_parts Tryz.info_Decl
  by_cases h0 : k = 0
  · subst h0
    clear hz2
    go_enter Tryz.func160, Tryz.ntmps160
    go_wp2
    go_ret
    exact ⟨⟨_, rfl, World.ownsRow_nil _ _ _ _⟩, Below.refl _ _⟩
  · have hrun := Aside0.mk (fun ty => run_append_nil_zeros (P := Tryz.prog) w 24 3 ty 122 i (.agg #[.string ⟨#[]⟩, .string ⟨#[]⟩]) .i64 .i64 Tryz.underlying24 Tryz.underlying3 hi hz0 k (by omega) (by rw [hz1]; decide) (by omega) (by rw [hz2]; omega))
    have hcap := grownCap_ge w k 0 122
    have hcm := grownCap_le_maxLen w k 0 122 (by unfold maxLen; omega)
    obtain ⟨cap, hc⟩ : ∃ cap, cap = grownCap w k 0 122 := ⟨_, rfl⟩
    rw [← hc] at hrun hcap hcm
    have hown := Aside0.mk (grow_own w k cap 122 (.agg #[.string ⟨#[]⟩, .string ⟨#[]⟩]) rfl hcap hcm)
    have hbl := Aside0.mk (show Below w.heap.size w (w.drew.alloc (.cells (Builtin.zeroCells (Value.agg #[.string ⟨#[]⟩, .string ⟨#[]⟩]).cells k ++ Builtin.zeroCells (Value.agg #[.string ⟨#[]⟩, .string ⟨#[]⟩]).cells (cap - k)) 122)) from below_alloc (below_drew (Below.refl _ _)) _)
    have hcm' : cap ≤ 9223372036854775807 := by unfold maxLen at hcm; omega
    clear hz2 hc hcm hz0 hz1 hi
    go_enter Tryz.func160, Tryz.ntmps160
    go_wp2_with (at_builtin; refine Lib.wpList_append_run _ rfl _ _ _ _ rfl _ _ rfl rfl _ _ (hrun.out _) ?_)
    go_ret
    exact ⟨⟨_, rfl, hown.out⟩, hbl.out⟩
def lenL (xs : List (List Dcl)) : Nat := (xs.map List.length).sum
theorem lenL_take (xs : List (List Dcl)) (j : Nat) (h : j < xs.length) : lenL (xs.take (j + 1)) = lenL (xs.take j) + (xs[j]'h).length := by
  rw [lenL, List.take_succ_eq_append_getElem h, List.map_append, List.sum_append]; simp [lenL]
theorem flat_len (xs : List (List Dcl)) : xs.flatten.length = lenL xs := by rw [List.length_flatten]; rfl
theorem flatten_take (xs : List (List Dcl)) (j : Nat) (h : j < xs.length) : (xs.take (j + 1)).flatten = (xs.take j).flatten ++ xs[j]'h := by
  rw [List.take_succ_eq_append_getElem h, List.flatten_append]; simp
theorem lenL_le (xs : List (List Dcl)) (j : Nat) : lenL (xs.take j) ≤ lenL xs := by
  have : lenL xs = lenL (xs.take j) + lenL (xs.drop j) := by rw [lenL, lenL, lenL, ← List.sum_append, ← List.map_append, List.take_append_drop]
  omega
theorem concat_calls {ok : Nat → Prop} (A : Option Addr) (c : Nat) (xs : List (List Dcl)) (w : World) (hr : Row (Kd.slice Kd.dcl) w ok A xs) (hs : lenL xs ≤ 4194304) :
    Calls Tryz.prog 138 #[.slice A xs.length c] w (NewRow Kd.dcl w xs.flatten) := by
  obtain ⟨i, hi, hz0, hz1, hz2⟩ := info_parts Tryz.info_Decl
  have hzs : ((.agg #[.string ⟨#[]⟩, .string ⟨#[]⟩]) : Value).cells.size = 2 := by rfl
  have Hz2 := Aside0.mk hz2
  clear hz2
  have hmax := hr.max
  have Hs := Aside0.mk (fun j => Nat.le_trans (lenL_le xs j) hs)
  go_enter Tryz.func138, Tryz.ntmps138
  go_wp2
  go_loopg [3, 11] xs.length (fun k s i wr => ∃ (j t : Nat), s = .int .i64 t ∧ i = .int .i64 j ∧ j + k = xs.length ∧ t ≤ 4194304 ∧ Aside (t = lenL (xs.take j)) ∧ w = wr)
  case atStart => exact ⟨0, 0, rfl, rfl, by omega, by omega, (by simp [lenL] : 0 = lenL (xs.take 0)), rfl⟩
  case round =>
    obtain ⟨j, t, rfl, rfl, hk, ht, ha, rfl⟩ := hrel
    by_cases hlt : j < xs.length
    · obtain ⟨b, o, A0, c0, rfl, hb, h0, l0, g0⟩ := slice_at hr j hlt
      have hle := Hs.out (j + 1)
      rw [lenL_take xs j hlt, ← ha.out] at hle
      have hnx := Aside0.mk (show t + (xs[j]'hlt).length = lenL (xs.take (j + 1)) by rw [lenL_take xs j hlt, ← ha.out])
      clear ha g0 hr
      obtain ⟨q, hq⟩ : ∃ q, q = (xs[j]'hlt).length := ⟨_, rfl⟩
      rw [← hq] at hle hnx h0
      clear hq
      go_wp2
      go_roundg (gk - 1)
      case measure => omega
      case rel => exact ⟨j + 1, t + q, by go_num, by go_num, by omega, by omega, hnx.out, rfl⟩
    · have hte := Aside0.mk (show t = lenL xs by rw [ha.out, List.take_of_length_le (by omega)])
      clear ha
      go_wp2_with fail
      refine (grow_calls t w ht).mono ?_
      rintro e w1 ⟨⟨v1, rfl, hown1⟩, hb1⟩
      have hown1 := Aside0.mk hown1
      go_wp2
      go_loopg [6, 27] xs.length (fun k v i wr => ∃ (j : Nat) (ys : List Dcl), i = .int .i64 j ∧ j + k = xs.length ∧ ys.length ≤ 4194304 ∧ Aside (ys = (xs.take j).flatten) ∧ Aside (wr.ownsRow w.heap.size 122 2 v ys.length (ys.flatMap Dcl.cells)) ∧ Below w.heap.size w wr)
      case atStart => exact ⟨0, [], rfl, by omega, Nat.zero_le _, (by simp : ([] : List Dcl) = (xs.take 0).flatten), hown1.out, hb1⟩
      case round =>
        clear hown1 hb1
        obtain ⟨j, ys, rfl, hk, hyl, ha, hown, hb⟩ := hrel
        by_cases hlt : j < xs.length
        · obtain ⟨b, o, A0, c0, rfl, hbl, h0, l0, g0⟩ := slice_at (hr.below hb) j hlt
          have hle := Hs.out (j + 1)
          have hnx := Aside0.mk (show ys ++ (xs[j]'hlt) = (xs.take (j + 1)).flatten by rw [flatten_take xs j hlt, ← ha.out])
          rw [← flat_len, ← hnx.out, List.length_append] at hle
          obtain ⟨q, hq⟩ : ∃ q, q = xs[j]'hlt := ⟨_, rfl⟩
          rw [← hq] at hle hnx h0 g0
          have hge := Aside0.mk (own_ge hown.out)
          have hown := Aside0.mk hown.out
          have g0 := Aside0.mk g0
          clear hq ha
          go_wp2_with (at_builtin; refine wpList_append_rows (enc := Dcl.cells) (hn := fun _ => rfl) rfl _ _ 24 rfl w.heap.size 122 i (.agg #[.string ⟨#[]⟩, .string ⟨#[]⟩]) _ Tryz.underlying24 hi hz0 hz1 rfl hzs (by decide) dcl_one _ rfl ys hown.out ?q0 A0 c0 q rfl g0.out ?q1 ?q2 ?q3 ?_)
          case q0 => exact hge.out
          case q1 => unfold maxLen; omega
          case q2 => rw [Hz2.out]; omega
          case q3 => exact hb.size
          intro v2 w2 hown2 hb2
          have hown2 := Aside0.mk (show w2.ownsRow w.heap.size 122 2 v2 (ys ++ q).length ((ys ++ q).flatMap Dcl.cells) by rw [List.length_append, List.flatMap_append]; exact hown2)
          go_wp2
          go_roundg (gk - 1)
          case measure => omega
          case rel => exact ⟨j + 1, ys ++ q, by go_num, by omega, (by rw [List.length_append]; exact hle), hnx.out, hown2.out, hb.trans hb2⟩
        · have hye := Aside0.mk (show ys = xs.flatten by rw [ha.out, List.take_of_length_le (by omega)])
          obtain ⟨A', c', he, hc, hrow⟩ := dcl_row hown.out
          subst he
          have hrow := Aside0.mk hrow
          clear ha hown
          go_wp2
          go_ret
          exact ⟨⟨A', c', by rw [hye.out]; rfl, hye.out ▸ hc, hye.out ▸ hrow.out⟩, hb⟩
theorem row_two {o1 o2 : Nat → Prop} {A B : Option Addr} {c1 c2 : Nat} {l m : List Dcl} {w : World} (T : TypeId) (h1 : Row Kd.dcl w o1 A l) (h2 : Row Kd.dcl w o2 B m) (hc1 : l.length ≤ c1) (hc2 : m.length ≤ c2) :
    Row (Kd.slice Kd.dcl) (w.alloc (.cells #[.slice A l.length c1, .slice B m.length c2] T (0, 0))) (fun _ => True) (some ⟨w.heap.size, 0, none⟩) [l, m] := by
  have hg : (w.alloc (.cells #[.slice A l.length c1, .slice B m.length c2] T (0, 0))).heap[w.heap.size]? = some (.cells #[.slice A l.length c1, .slice B m.length c2] T (0, 0)) := Array.getElem?_push_size
  have hb : Below w.heap.size w (w.alloc (.cells #[.slice A l.length c1, .slice B m.length c2] T (0, 0))) := below_alloc (Below.refl _ _) _
  refine ⟨by simp [maxLen], .inr ⟨_, 0, rfl, trivial, by rw [World.alloc, Array.size_push]; omega, fun i hi => ?_⟩⟩
  match i, hi with
  | 0, _ =>
    refine ⟨[.slice A l.length c1], ⟨A, c1, rfl, hc1, (h1.below hb).mono (fun _ _ => trivial)⟩, fun j v hj => ?_⟩
    match j, hj with
    | 0, hj => injection hj with hj; subst hj; exact cell_of_row _ _ 0 _ _ _ hg
  | 1, _ =>
    refine ⟨[.slice B m.length c2], ⟨B, c2, rfl, hc2, (h2.below hb).mono (fun _ _ => trivial)⟩, fun j v hj => ?_⟩
    match j, hj with
    | 0, hj => injection hj with hj; subst hj; exact cell_of_row _ _ 1 _ _ _ hg
theorem implInner_calls {o1 o2 : Nat → Prop} (A B : Option Addr) (c1 c2 : Nat) (l m : List Dcl) (w : World) (h1 : Row Kd.dcl w o1 A l) (h2 : Row Kd.dcl w o2 B m) (hc1 : l.length ≤ c1) (hc2 : m.length ≤ c2) (hl : l.length ≤ 2097152) (hm : m.length ≤ 2097152) :
    Calls Tryz.prog 116 #[.slice A l.length c1, .slice B m.length c2] w (NewRow Kd.dcl w (l ++ m)) := by
  obtain ⟨W, hW⟩ : ∃ W, W = w.alloc (.cells #[.slice A l.length c1, .slice B m.length c2] 24 (0, 0)) := ⟨_, rfl⟩
  have HC := Aside0.mk (concat_calls (some ⟨w.heap.size, 0, none⟩) 2 [l, m] W (by rw [hW]; exact row_two _ h1 h2 hc1 hc2) (by simp [lenL]; omega))
  have HB : Below w.heap.size w W := by rw [hW]; exact below_alloc (Below.refl _ _) _
  have hf := Aside0.mk (show [l, m].flatten = l ++ m by simp)
  have h1m := h1.max
  have h2m := h2.max
  have HW := Aside0.mk hW
  clear hW
  clear h1 h2
  go_enter Tryz.func116, Tryz.ntmps116
  go_wp2_with fail
  rw [← HW.out]
  refine HC.out.mono ?_
  rintro e w1 ⟨⟨A', c', rfl, hc, hr⟩, hb1⟩
  rw [hf.out] at hc hr
  have hr := Aside0.mk hr
  have hc := Aside0.mk hc
  go_wp2
  go_ret
  exact ⟨⟨A', c', by rw [List.length_append]; rfl, hc.out, hr.out.mono (fun k hk => Nat.le_trans HB.size hk)⟩, below_then HB hb1⟩
end Go.Proofs.YtpcklgkpjmmakaaGreatDoor
namespace Go.Proofs.YtpcklgkpjmmakaaGreatDoor
open Go.RowKit Go.Lib Go.Shelf
set_option linter.unusedVariables false
set_option linter.unusedSimpArgs false
set_option maxHeartbeats 4000000
set_option maxRecDepth 100000
attribute [local go_sem] Oper.semAt_some
/-- What slices.Backward hands out: the index, the element, the last first. -/
def bwAt (zs : List Dcl) (j : Nat) : Nat × Dcl := (zs.length - 1 - j, zs[zs.length - 1 - j]?.getD ⟨⟨#[]⟩, ⟨#[]⟩⟩)
def bw (zs : List Dcl) (k : Nat) : List (Nat × Dcl) := (List.range k).map (bwAt zs)
theorem bw_succ (zs : List Dcl) (k : Nat) : bw zs (k + 1) = bw zs k ++ [bwAt zs k] := by simp [bw, List.range_succ]
theorem bw_length (zs : List Dcl) (k : Nat) : (bw zs k).length = k := by simp [bw]
theorem bwAt_eq {zs : List Dcl} {m : Nat} (h : m < zs.length) : bwAt zs (zs.length - 1 - m) = (m, zs[m]'h) := by
  unfold bwAt
  rw [show zs.length - 1 - (zs.length - 1 - m) = m by omega, List.getElem?_eq_getElem h]
  rfl
/-- The rounds so far have not met p: what is left says what p stands for. -/
theorem bw_space (zs : List Dcl) (p : ByteArray) : ∀ k, k ≤ zs.length → (∀ y ∈ bw zs k, ¬ y.2.pre = p) → spaceOf zs p = spaceOf (zs.take (zs.length - k)) p
  | 0, _, _ => by rw [Nat.sub_zero, List.take_length]
  | k + 1, hk, h => by
    have hm : zs.length - 1 - k < zs.length := by omega
    have e := bwAt_eq hm
    rw [show zs.length - 1 - (zs.length - 1 - k) = k by omega] at e
    have h1 := h (bwAt zs k) (by rw [bw_succ]; simp)
    rw [e] at h1
    rw [bw_space zs p k (by omega) (fun y hy => h y (by rw [bw_succ]; exact List.mem_append_left _ hy)), show zs.length - k = (zs.length - 1 - k) + 1 by omega, space_miss hm h1, show zs.length - (k + 1) = zs.length - 1 - k by omega]
theorem bw_hit (zs : List Dcl) (p : ByteArray) (k : Nat) (hk : k < zs.length) (h : ∀ y ∈ bw zs k, ¬ y.2.pre = p) (e : (bwAt zs k).2.pre = p) : spaceOf zs p = ((bwAt zs k).2.uri, true) := by
  have hm : zs.length - 1 - k < zs.length := by omega
  have e1 := bwAt_eq hm
  rw [show zs.length - 1 - (zs.length - 1 - k) = k by omega] at e1
  rw [e1] at e ⊢
  rw [bw_space zs p k (by omega) h, show zs.length - k = (zs.length - 1 - k) + 1 by omega, space_hit hm e]
def encD (x : Nat × Dcl) : Array Value := #[.int .i64 (x.1 : Int), .agg #[.string x.2.pre, .string x.2.uri]]
theorem back1_in (F : Fence) (n : Nat) (hf : F.fn 161) (hro : F.round = none) (hn : 1 ≤ n) (l Bs n₀ : Nat) {ok : Nat → Prop} (A : Option Addr) (cap : Nat) (zs : List Dcl) (hlen : zs.length ≤ 2097152) (hok : ∀ k, ok k → k < n₀) (J Jx : List (Nat × Dcl) → World → Prop)
    (hY : ∀ pre x W, J pre W → pre.length < zs.length → YieldAt F (n - 1) Tryz.prog l (encD x) W fun e W' =>
      (e = .returned (.bool true) ∧ J (pre ++ [x]) W' ∧ Below n₀ W W') ∨ (e = .returned (.bool false) ∧ Jx (pre ++ [x]) W'))
    (W : World) (hBs : W.cell? ⟨Bs, 0, none⟩ = some (.slice A zs.length cap)) (hB0 : Bs < n₀) (hr : Row Kd.dcl W ok A zs) (h0 : J [] W) :
    CallsIn F n Tryz.prog 161 #[.func (.yield l) #[] #[], .pointer (some ⟨Bs, 0, none⟩)] W fun e W' => (∃ v, e = .returned v) ∧
      ((∃ ys, ys = bw zs zs.length ∧ J ys W') ∨ (∃ pre, (∃ k, k < zs.length ∧ pre = bw zs (k + 1)) ∧ Jx pre W')) := by
  have HR := Aside0.mk (show ∀ W1, Below n₀ W W1 → Row Kd.dcl W1 ok A zs ∧ W1.cell? ⟨Bs, 0, none⟩ = some (.slice A zs.length cap) from
    fun W1 hb => ⟨hr.agree (fun k hk _ => hb.block k (hok k hk)), (hb.cell (p := ⟨Bs, 0, none⟩) hB0).trans hBs⟩)
  clear hr hok
  refine callsIn_of_wp Tryz.func161 rfl hf ?_ hro
  simp only [Tryz.ntmps161, List.size_toArray, List.length_cons, List.length_nil, Nat.reduceAdd, Nat.reduceSub, Array.replicate_succ, Array.replicate_zero, List.push_toArray, List.append_toArray, List.nil_append, List.cons_append]
  gi_wp2
  gi_loopw [3] (fun i wr => ∃ (m : Nat) (v : Int), m ≤ zs.length ∧ i = .int .i64 v ∧ v = (m : Int) - 1 ∧ J (bw zs (zs.length - m)) wr ∧ Below n₀ W wr)
    (fun i _ => (RowKit.intOf i + 1).toNat)
  case atStart => exact ⟨zs.length, _, Nat.le_refl _, rfl, rfl, by rw [Nat.sub_self]; exact h0, Below.refl _ _⟩
  case round =>
    obtain ⟨m, v, hm, rfl, hv, hJs, hnx⟩ := hrel
    obtain ⟨hrow, hcb⟩ := HR.out _ hnx
    rcases m with _ | m
    · have hv0 : v < 0 := by omega
      rw [Nat.sub_zero] at hJs
      clear hm hv
      gi_wp2
      go_end0
      exact ⟨⟨_, rfl⟩, .inl ⟨_, rfl, hJs⟩⟩
    · obtain rfl : v = (m : Int) := by omega
      have hlt : m < zs.length := by omega
      have i1 : (m : Int) < (zs.length : Int) := by omega
      obtain ⟨b, o, rfl, hbl, d0, d1⟩ := dcl_at hrow m hlt
      have e1 := bwAt_eq hlt
      have e2 := bw_succ zs (zs.length - 1 - m)
      rw [e1, show zs.length - 1 - m + 1 = zs.length - m by omega] at e2
      rw [show zs.length - (m + 1) = zs.length - 1 - m by omega] at hJs
      obtain ⟨fn, tmps, assign, body, hy, hR⟩ := hY _ (m, zs[m]'hlt) wr hJs (by rw [bw_length]; omega)
      dsimp only [encD] at hy
      have HE := Aside0.mk e2
      clear hm hv e1 e2
      gi_wp2
      refine hR.mono ?_
      rintro e W3 (⟨rfl, hJ3, hk3⟩ | ⟨rfl, hJx3⟩)
      · gi_wp2
        go_roundw
        case rel => exact ⟨m, (m : Int) - 1, by omega, by go_num, rfl, by rw [HE.out]; exact hJ3, hnx.trans hk3⟩
        case measure => simp [RowKit.intOf]
      · gi_wp2
        refine bodyPost_ret (results_none rfl _ _ _) rfl ?_
        exact ⟨⟨_, rfl⟩, .inr ⟨_, ⟨zs.length - 1 - m, by omega, by rw [show zs.length - 1 - m + 1 = zs.length - m by omega, HE.out]⟩, hJx3⟩⟩
theorem back_in (F : Fence) (n : Nat) (hf : F.fn 139) (hro : F.round = none) (a : Option Addr) (len cap : Nat) (w : World) :
    CallsIn F n Tryz.prog 139 #[.slice a len cap] w fun e w' => e = .returned (.func (.func 161) #[] #[.pointer (some ⟨w.heap.size, 0, none⟩)]) ∧ w' = w.alloc (.cells #[.slice a len cap] 24) := by
  refine callsIn_of_wp Tryz.func139 rfl hf ?_ hro
  simp only [Tryz.ntmps139, List.size_toArray, List.length_cons, List.length_nil, Nat.reduceAdd, Nat.reduceSub, Array.replicate_succ, Array.replicate_zero, List.push_toArray, List.append_toArray, List.nil_append, List.cons_append]
  gi_wp2
  go_ret
  exact ⟨rfl, rfl⟩
theorem back_stops (F : Fence) (n : Nat) (hf : F.fn 161) (hro : F.round = none) (hn : 1 ≤ n) (Bs n₀ : Nat) {ok : Nat → Prop} (A : Option Addr) (cap : Nat) (zs : List Dcl) (hlen : zs.length ≤ 2097152) (hok : ∀ k, ok k → k < n₀) (w : World) (hn₀ : n₀ ≤ w.heap.size)
    (hBs : w.cell? ⟨Bs, 0, none⟩ = some (.slice A zs.length cap)) (hB0 : Bs < n₀) (hr : Row Kd.dcl w ok A zs) :
    SeqStopsK F n Tryz.prog 161 #[.pointer (some ⟨Bs, 0, none⟩)] encD (Below n₀) (fun ys => ys = bw zs zs.length) (fun pre => ∃ k, k < zs.length ∧ pre = bw zs (k + 1)) zs.length w := fun l J Jx W hW _ _ hY h0 =>
  back1_in F n hf hro hn l Bs n₀ A cap zs hlen hok J Jx hY W ((hW.cell (p := ⟨Bs, 0, none⟩) (Nat.lt_of_lt_of_le hB0 hn₀)).trans hBs) hB0 (hr.below hW) h0
end Go.Proofs.YtpcklgkpjmmakaaGreatDoor
namespace Go.Proofs.YtpcklgkpjmmakaaGreatDoor
open Go.RowKit Go.Lib Go.Shelf
set_option linter.unusedVariables false
set_option linter.unusedSimpArgs false
set_option maxHeartbeats 4000000
set_option maxRecDepth 100000
attribute [local go_sem] Oper.semAt_some
/-- A loop variable's box. -/
def DBox (Bx : Nat) (x : Nat × Dcl) (W : World) : Prop := W.heap[Bx]? = some (.cells #[.string x.2.pre, .string x.2.uri] 122 (0, 0))
theorem dbox_own (D Bx : Nat) (x : Nat × Dcl) : OwnFrom D (fun (_ : Unit) W => DBox Bx x W) := fun s X Y row hs hg hr => (grownBy_keeps_cells hg (fun r e => (hr r e).2) hs rfl).trans hs
theorem space_done (l : List Dcl) (p : ByteArray) (h : ∀ y ∈ bw l l.length, ¬ y.2.pre = p) : spaceOf l p = (⟨#[]⟩, decide (p = ⟨#[]⟩)) := by
  rw [bw_space l p l.length (Nat.le_refl _) h, Nat.sub_self, List.take_zero]; rfl
theorem space_stop {l : List Dcl} {p : ByteArray} {k : Nat} {q : List (Nat × Dcl)} {d : Nat × Dcl} (hk : k < l.length) (h : q ++ [d] = bw l (k + 1)) (hq : ∀ y ∈ q, ¬ y.2.pre = p) (hd : d.2.pre = p) : spaceOf l p = (d.2.uri, true) := by
  rw [bw_succ] at h
  obtain ⟨rfl, h2⟩ := List.append_inj' h rfl
  injection h2 with h2 _
  subst h2
  exact bw_hit l p k hk hq hd
theorem implSpaceOf_calls {ok : Nat → Prop} (A : Option Addr) (c : Nat) (l : List Dcl) (p : ByteArray) (w : World) (hr : Row Kd.dcl w ok A l) (hll : l.length ≤ 2097152) :
    Calls Tryz.prog 118 #[.slice A l.length c, .string p] w fun e w' => e = .returned (.tuple #[.string (spaceOf l p).1, .bool (spaceOf l p).2]) ∧ Below w.heap.size w w' := by
  refine (callsIn_wide (n := 4)).1 ?_
  have hro : Fence.wide.round = none := rfl
  have h1 : 1 ≤ 4 := by omega
  obtain ⟨V1, hV1⟩ : ∃ V, V = w.alloc (.cells #[.string p] 9 (0, 0)) := ⟨_, rfl⟩
  obtain ⟨V2, hV2⟩ : ∃ V, V = V1.alloc (.cells #[.string ⟨#[]⟩] 9 (0, 0)) := ⟨_, rfl⟩
  obtain ⟨V3, hV3⟩ : ∃ V, V = V2.alloc (.cells #[.bool false] 4 (0, 0)) := ⟨_, rfl⟩
  obtain ⟨W0, hV4⟩ : ∃ V, V = V3.alloc (.cells #[.slice A l.length c] 24 (0, 0)) := ⟨_, rfl⟩
  have s1 : V1.heap.size = w.heap.size + 1 := by rw [hV1]; exact Array.size_push _
  have s2 : V2.heap.size = w.heap.size + 1 + 1 := by rw [hV2, World.size_alloc, s1]
  have s3 : V3.heap.size = w.heap.size + 1 + 1 + 1 := by rw [hV3, World.size_alloc, s2]
  have hsz : W0.heap.size = w.heap.size + 1 + 1 + 1 + 1 := by rw [hV4, World.size_alloc, s3]
  have b0 : Boxed W0 w.heap.size 9 (.string p) := by rw [hV4, hV3, hV2, hV1]; exact (((Boxed.new w _ _).alloc _).alloc _).alloc _
  have b1 : Boxed W0 (w.heap.size + 1) 9 (.string ⟨#[]⟩) := by rw [hV4, hV3, hV2, ← s1]; exact ((Boxed.new V1 _ _).alloc _).alloc _
  have b2 : Boxed W0 (w.heap.size + 1 + 1) 4 (.bool false) := by rw [hV4, hV3, ← s2]; exact (Boxed.new V2 _ _).alloc _
  have b3 : Boxed W0 (w.heap.size + 1 + 1 + 1) 24 (.slice A l.length c) := by rw [hV4, ← s3]; exact Boxed.new V3 _ _
  have hB0 : Below w.heap.size w W0 := by rw [hV4, hV3, hV2, hV1]; exact below_alloc (below_alloc (below_alloc (below_alloc (Below.refl _ _) _) _) _) _
  have HW := Aside0.mk (show W0 = (((w.alloc (.cells #[.string p] 9 (0, 0))).alloc (.cells #[.string ⟨#[]⟩] 9 (0, 0))).alloc (.cells #[.bool false] 4 (0, 0))).alloc (.cells #[.slice A l.length c] 24 (0, 0)) by rw [hV4, hV3, hV2, hV1])
  have HR := Aside0.mk (hr.below hB0).bound
  clear hV1 hV2 hV3 hV4 s1 s2 s3 hr
  refine callsIn_of_wp_marks Tryz.func118 rfl trivial ?_ hro
  simp only [Tryz.ntmps118, List.size_toArray, List.length_cons, List.length_nil, Nat.reduceAdd, Nat.reduceSub, Array.replicate_succ, Array.replicate_zero, List.push_toArray, List.append_toArray, List.nil_append, List.cons_append]
  gi_wp2
  refine ⟨trivial, ?_⟩
  refine (back_in Fence.wide (4 - 1) trivial hro _ _ _ _).mono ?_
  rintro e w' ⟨rfl, rfl⟩
  gi_wp2
  rw [← HW.out]
  refine wpIn_rangeFunc_ownH hro h1 (gf := 161) (lb := #[.pointer (some ⟨w.heap.size + 1 + 1 + 1, 0, none⟩)]) rfl trivial (enters_of Tryz.func161 (by kernel_rfl) rfl)
    (back_stops Fence.wide (4 - 1) trivial hro (by omega) (w.heap.size + 1 + 1 + 1) W0.heap.size A c l hll (fun k hk => hk.2) W0 (Nat.le_refl _) b3.cell (by omega) HR.out)
    belowK_t (belowK_b (Nat.le_refl _)) (Below.refl _ _) (fun _ => rfl)
    (fun pre W => ((∀ y ∈ pre, ¬ y.2.pre = p) ∧ Boxed W w.heap.size 9 (.string p) ∧ Boxed W (w.heap.size + 1) 9 (.string ⟨#[]⟩) ∧ Boxed W (w.heap.size + 1 + 1) 4 (.bool false)) ∧ Below W0.heap.size W0 W)
    (fun q pre W => (q = .ret ∧ ∃ r d, pre = r ++ [d] ∧ (∀ y ∈ r, ¬ y.2.pre = p) ∧ d.2.pre = p ∧ Boxed W (w.heap.size + 1) 9 (.string d.2.uri) ∧ Boxed W (w.heap.size + 1 + 1) 4 (.bool true)) ∧ Below w.heap.size w W)
    (OwnFrom.and (Go.Own.from (fun s X Y row hs hg hr => ⟨hs.1, boxed_own _ _ (fun _ : Unit => _) () X Y row hs.2.1 hg hr, boxed_own _ _ (fun _ : Unit => _) () X Y row hs.2.2.1 hg hr, boxed_own _ _ (fun _ : Unit => _) () X Y row hs.2.2.2 hg hr⟩) _) (ownFrom_below (Nat.le_refl _) (Nat.le_refl _)))
    (fun q => OwnFrom.and (Go.Own.from (fun s X Y row hs hg hr => by
      obtain ⟨hq, r, d, e1, e2, e3, e4, e5⟩ := hs
      exact ⟨hq, r, d, e1, e2, e3, boxed_own _ _ (fun _ : Unit => _) () X Y row e4 hg hr, boxed_own _ _ (fun _ : Unit => _) () X Y row e5 hg hr⟩) _) (ownFrom_below (Nat.le_refl _) (by omega)))
    ⟨⟨by simp, b0, b1, b2⟩, Below.refl _ _⟩
    (fun x a' W => ∃ Bx, W0.heap.size ≤ Bx ∧ DBox Bx x W ∧ a' = { tmps := #[.slice A l.length c, .string p, undef, .pointer (some ⟨w.heap.size, 0, none⟩), .pointer (some ⟨w.heap.size + 1, 0, none⟩), .pointer (some ⟨w.heap.size + 1 + 1, 0, none⟩), undef, .pointer (some ⟨Bx, 0, none⟩), .slice A l.length c, .func (.func 161) #[] #[.pointer (some ⟨w.heap.size + 1 + 1 + 1, 0, none⟩)], .int .i64 (x.1 : Int), .agg #[.string x.2.pre, .string x.2.uri], undef, undef, undef, undef, undef, undef, undef, undef], defers := [] })
    (fun x a' s X Y row hs hg hr => by
      obtain ⟨Bx, h1, h2, h3⟩ := hs
      exact ⟨Bx, h1, dbox_own _ Bx x () X Y row h2 hg hr, h3⟩) ?assign ?body ?done ?stop
  case assign =>
    rintro q pre x W K ⟨⟨hp, c0, c1, c2⟩, hB⟩ hK
    simp only [encD]
    gi_wp2
    exact hK _ _ ((KeepsOthers.alloc _ _).from _) ((Below.refl _ W).alloc hB.size _) ⟨⟨hp, c0.alloc _, c1.alloc _, c2.alloc _⟩, hB.alloc hB.size _⟩ ⟨W.heap.size, hB.size, World.alloc_heap_new W _, rfl⟩
  case body =>
    rintro q pre x a' W hl ⟨r, hrr⟩ ⟨⟨hp, c0, c1, c2⟩, hB⟩ ⟨Bx, hBx, bX, rfl⟩ hlt
    have d0 := c0.cell
    have d1 := c1.cell
    have d2 := c2.cell
    have f1 := c1.frozen
    have f2 := c2.frozen
    have x0 : W.cell? ⟨Bx, 0, none⟩ = some (.string x.2.pre) := cell_of_row W Bx 0 _ _ _ bX
    have x1 : W.cell? ⟨Bx, 1, none⟩ = some (.string x.2.uri) := cell_of_row W Bx 1 _ _ _ bX
    have hBw := below_then hB0 hB
    by_cases e : x.2.pre = p
    · have he := Aside0.mk e
      rw [e] at x0
      have HP := Aside0.mk hp
      have HBX := Aside0.mk bX
      clear e hp bX hrr hl hlt
      gi_wp2
      exact ⟨((KeepsOthers.setCell _ _ _).trans (KeepsOthers.setCell _ _ _)).from _, ⟨rfl, pre, x, rfl, HP.out, he.out, (c1.set _).other (by omega) _, (c2.other (by omega) _).set _⟩, (hBw.setCell (p := ⟨w.heap.size + 1, 0, none⟩) (by simp) _).setCell (p := ⟨w.heap.size + 1 + 1, 0, none⟩) (by simp; omega) _⟩
    · have n1 := str_neb e
      have he := Aside0.mk e
      have HP := Aside0.mk hp
      have HBX := Aside0.mk bX
      clear e hp bX hrr hl hlt
      gi_wp2
      exact ⟨(KeepsOthers.refl _).from _, Below.refl _ _, ⟨fun y hy => (List.mem_append.1 hy).elim (HP.out y) (fun h => by rw [List.mem_singleton.1 h]; exact he.out), c0, c1, c2⟩, hB⟩
  case done =>
    rintro D ys W hD rfl ⟨⟨hne, c0, c1, c2⟩, hB⟩ hK
    have hsp := Aside0.mk (space_done l p hne)
    have d0 := c0.cell
    have d1 := c1.cell
    have d2 := c2.cell
    have f1 := c1.frozen
    have f2 := c2.frozen
    clear hne
    by_cases hp0 : p = ⟨#[]⟩
    · have hsp := Aside0.mk (show spaceOf l p = (⟨#[]⟩, true) by rw [hsp.out, decide_eq_true hp0])
      subst hp0
      gi_wp2
      gi_region
      all_goals gi_wp2
      obtain ⟨X, hX⟩ : ∃ X, X = ((W.setCell ⟨w.heap.size + 1, 0, none⟩ (.string ⟨#[]⟩)).setCell ⟨w.heap.size + 1 + 1, 0, none⟩ (.bool true)).drew := ⟨_, rfl⟩
      rw [← hX]
      have hKX : X.heap[D]? = some (.deferred (some [])) := by rw [hX]; exact ((KeepsOthers.setCell W ⟨w.heap.size + 1, 0, none⟩ (.string ⟨#[]⟩)).trans (KeepsOthers.setCell _ ⟨w.heap.size + 1 + 1, 0, none⟩ (.bool true))).same D _ hK rfl
      have k1 : X.cell? ⟨w.heap.size + 1, 0, none⟩ = some (.string ⟨#[]⟩) := by rw [hX]; exact ((c1.set (.string ⟨#[]⟩)).other (by omega) (.bool true)).cell
      have k2 : X.cell? ⟨w.heap.size + 1 + 1, 0, none⟩ = some (.bool true) := by rw [hX]; exact ((c2.other (by omega) (.string ⟨#[]⟩)).set (.bool true)).cell
      have hBX : Below w.heap.size w X := by
        rw [hX]
        exact below_drew (((below_then hB0 hB).setCell (p := ⟨w.heap.size + 1, 0, none⟩) (by simp) _).setCell (p := ⟨w.heap.size + 1 + 1, 0, none⟩) (by simp; omega) _)
      refine ⟨by simp, .inl ⟨_, _, rfl, run_takeDeferred hKX, ?_⟩⟩
      have h1 := cell_kept k1 (grownBy_putObj' _ D (.deferred none)) (fun r e => by cases e; exact ⟨_, hKX, rfl⟩)
      have h2 := cell_kept k2 (grownBy_putObj' _ D (.deferred none)) (fun r e => by cases e; exact ⟨_, hKX, rfl⟩)
      refine ⟨.tuple #[.string ⟨#[]⟩, .bool true], ?_, by rw [hsp.out] <;> rfl, hBX.trans (belowK_b (w := w) (Nat.le_refl _) X D _ _ (by omega) hKX rfl rfl)⟩
      simp [results, Tryz.f118, go_sem, h1, h2]
    · have hsp := Aside0.mk (show spaceOf l p = (⟨#[]⟩, false) by rw [hsp.out, decide_eq_false hp0])
      have n1 := str_ne0 hp0
      have n2 := str_neE hp0
      clear hp0
      gi_wp2
      gi_region
      all_goals gi_wp2
      obtain ⟨X, hX⟩ : ∃ X, X = ((W.setCell ⟨w.heap.size + 1, 0, none⟩ (.string ⟨#[]⟩)).setCell ⟨w.heap.size + 1 + 1, 0, none⟩ (.bool false)).drew := ⟨_, rfl⟩
      rw [← hX]
      have hKX : X.heap[D]? = some (.deferred (some [])) := by rw [hX]; exact ((KeepsOthers.setCell W ⟨w.heap.size + 1, 0, none⟩ (.string ⟨#[]⟩)).trans (KeepsOthers.setCell _ ⟨w.heap.size + 1 + 1, 0, none⟩ (.bool false))).same D _ hK rfl
      have k1 : X.cell? ⟨w.heap.size + 1, 0, none⟩ = some (.string ⟨#[]⟩) := by rw [hX]; exact ((c1.set (.string ⟨#[]⟩)).other (by omega) (.bool false)).cell
      have k2 : X.cell? ⟨w.heap.size + 1 + 1, 0, none⟩ = some (.bool false) := by rw [hX]; exact ((c2.other (by omega) (.string ⟨#[]⟩)).set (.bool false)).cell
      have hBX : Below w.heap.size w X := by
        rw [hX]
        exact below_drew (((below_then hB0 hB).setCell (p := ⟨w.heap.size + 1, 0, none⟩) (by simp) _).setCell (p := ⟨w.heap.size + 1 + 1, 0, none⟩) (by simp; omega) _)
      refine ⟨by simp, .inl ⟨_, _, rfl, run_takeDeferred hKX, ?_⟩⟩
      have h1 := cell_kept k1 (grownBy_putObj' _ D (.deferred none)) (fun r e => by cases e; exact ⟨_, hKX, rfl⟩)
      have h2 := cell_kept k2 (grownBy_putObj' _ D (.deferred none)) (fun r e => by cases e; exact ⟨_, hKX, rfl⟩)
      refine ⟨.tuple #[.string ⟨#[]⟩, .bool false], ?_, by rw [hsp.out] <;> rfl, hBX.trans (belowK_b (w := w) (Nat.le_refl _) X D _ _ (by omega) hKX rfl rfl)⟩
      simp [results, Tryz.f118, go_sem, h1, h2]
  case stop =>
    rintro D q pre W hD ⟨k, hk, hpre⟩ ⟨⟨rfl, r, d, rfl, hr1, hr2, c1, c2⟩, hB⟩ hK
    have hsp := space_stop hk hpre hr1 hr2
    have d1 := c1.cell
    have d2 := c2.cell
    gi_wp2
    refine ⟨by simp, .inl ⟨_, _, rfl, run_takeDeferred hK, ?_⟩⟩
    have h1 := cell_kept d1 (grownBy_putObj' _ D (.deferred none)) (fun r e => by cases e; exact ⟨_, hK, rfl⟩)
    have h2 := cell_kept d2 (grownBy_putObj' _ D (.deferred none)) (fun r e => by cases e; exact ⟨_, hK, rfl⟩)
    refine ⟨.tuple #[.string d.2.uri, .bool true], ?_, by rw [hsp], hB.trans (belowK_b (w := w) (Nat.le_refl _) W D _ _ (by omega) hK rfl rfl)⟩
    simp [results, Tryz.f118, go_sem, h1, h2]
end Go.Proofs.YtpcklgkpjmmakaaGreatDoor
namespace Go.Proofs.YtpcklgkpjmmakaaGreatDoor
open Go.RowKit Go.Lib
set_option linter.unusedVariables false
set_option linter.unusedSimpArgs false
set_option maxHeartbeats 4000000
set_option maxRecDepth 20000
theorem means_calls {ok : Nat → Prop} (g : Nat) (A : Option Addr) (c : Nat) (L : List Dcl) (p q : ByteArray) (w : World) (hc : w.cell? ⟨g, 0, none⟩ = some (.slice A L.length c)) (hr : Row Kd.dcl w ok A L) (hl : L.length ≤ 2097152) :
    Calls Tryz.prog 117 #[.string p, .string q, .pointer (some ⟨g, 0, none⟩)] w fun e w' => e = .returned (.bool (meansB L p q)) ∧ Below w.heap.size w w' := by
  have HS := Aside0.mk (implSpaceOf_calls A c L p w hr hl)
  obtain ⟨u, hu⟩ : ∃ u, u = (spaceOf L p).1 := ⟨_, rfl⟩
  obtain ⟨t, ht⟩ : ∃ t, t = (spaceOf L p).2 := ⟨_, rfl⟩
  have hme := Aside0.mk (show meansB L p q = (t && decide (u = q)) by rw [meansB_eq, hu, ht])
  rw [← hu, ← ht] at HS
  clear hu ht hr
  go_enter Tryz.func117, Tryz.ntmps117
  go_wp2_with fail
  refine (HS.out).mono ?_
  rintro e w1 ⟨rfl, hb1⟩
  cases t with
  | false =>
    have hfin := Aside0.mk (show meansB L p q = false by rw [hme.out]; rfl)
    go_wp2
    go_ret
    exact ⟨by rw [hfin.out]; rfl, hb1⟩
  | true =>
    by_cases hu0 : u = q
    · have hfin := Aside0.mk (show meansB L p q = true by rw [hme.out, decide_eq_true hu0]; rfl)
      subst hu0
      go_wp2
      go_ret
      exact ⟨by rw [hfin.out]; rfl, hb1⟩
    · have hfin := Aside0.mk (show meansB L p q = false by rw [hme.out, decide_eq_false hu0]; rfl)
      have n3 := str_neb hu0
      clear hu0
      go_wp2
      go_ret
      exact ⟨by rw [hfin.out]; rfl, hb1⟩
theorem fits2_calls {ok : Nat → Prop} (g2 g : Nat) (A : Option Addr) (c : Nat) (L : List Dcl) (a : Atr) (w : World) (h2 : w.cell? ⟨g2, 0, none⟩ = some (.func (.func 117) #[] #[.pointer (some ⟨g, 0, none⟩)])) (hc : w.cell? ⟨g, 0, none⟩ = some (.slice A L.length c))
    (hg2 : g2 < w.heap.size) (hg : g < w.heap.size) (hr : Row Kd.dcl w ok A L) (hl : L.length ≤ 2097152) :
    Calls Tryz.prog 120 #[.agg #[.string a.pre, .string a.loc, .string a.uri, .string a.val], .pointer (some ⟨g2, 0, none⟩)] w fun e w' => e = .returned (.bool (!attrFits L a)) ∧ Below w.heap.size w w' := by
  obtain ⟨W, hW, HB, hsz, HG⟩ := boxed w #[.string a.pre, .string a.loc, .string a.uri, .string a.val] 114
  obtain ⟨c0, c1, c2, c3⟩ := box4 HG
  have k2 := ((bcell HB).1 g2 0 hg2).trans h2
  have kc := ((bcell HB).1 g 0 hg).trans hc
  have hfa := Aside0.mk (show attrFits L a = (decide (a.pre = ⟨#[]⟩) || meansB L a.pre a.uri) from rfl)
  obtain ⟨p, hp⟩ : ∃ p, p = a.pre := ⟨_, rfl⟩
  obtain ⟨q, hq⟩ : ∃ q, q = a.uri := ⟨_, rfl⟩
  have HM := Aside0.mk (means_calls g A c L p q W kc (hr.below HB) hl)
  rw [← hp] at c0 hfa hW ⊢
  rw [← hq] at c2 hfa hW ⊢
  have HW := Aside0.mk hW
  clear hW
  clear hp hq h2 hc hr HG kc
  by_cases hp0 : p = ⟨#[]⟩
  · have hfin := Aside0.mk (show (!attrFits L a) = false by rw [hfa.out, decide_eq_true hp0]; rfl)
    subst hp0
    go_enter Tryz.func120, Tryz.ntmps120
    go_upto_region 1 with fail
    rw [← HW.out]
    go_wp2
    go_ret
    exact ⟨by rw [hfin.out]; rfl, HB⟩
  · have hfin := Aside0.mk (show (!attrFits L a) = !meansB L p q by rw [hfa.out, decide_eq_false hp0]; rfl)
    have n1 := str_ne0 hp0
    have n2 := str_neE hp0
    clear hp0
    go_enter Tryz.func120, Tryz.ntmps120
    go_upto_region 1 with fail
    rw [← HW.out]
    go_wp2_with fail
    refine (HM.out).mono ?_
    rintro e w1 ⟨rfl, hb1⟩
    go_wp2
    go_ret
    exact ⟨by rw [hfin.out]; rfl, below_then HB hb1⟩
theorem fits3_calls {ok o2 : Nat → Prop} (g : Nat) (A : Option Addr) (c : Nat) (L : List Dcl) (n : Nd) (s : Sh) (w : World) (hc : w.cell? ⟨g, 0, none⟩ = some (.slice A L.length c)) (hg : g < w.heap.size) (hn : NodeIs w ok n s) (hr : Row Kd.dcl w o2 A L)
    (ih : ∀ W, NodeIs W ok n s → Row Kd.dcl W o2 A L → Calls Tryz.prog 84 #[.agg #[.int .i64 n.kind, .string n.pre, .string n.loc, .string n.uri, .slice s.Ad n.decls.length s.cd, .slice s.Aa n.attrs.length s.ca, .slice s.Ak n.kids.length s.ck, .string n.text], .slice A L.length c] W fun e w' => e = .returned (.bool (fitsIn n L)) ∧ Below W.heap.size W w') :
    Calls Tryz.prog 122 #[.agg #[.int .i64 n.kind, .string n.pre, .string n.loc, .string n.uri, .slice s.Ad n.decls.length s.cd, .slice s.Aa n.attrs.length s.ca, .slice s.Ak n.kids.length s.ck, .string n.text], .pointer (some ⟨g, 0, none⟩)] w fun e w' => e = .returned (.bool (!fitsIn n L)) ∧ Below w.heap.size w w' := by
  obtain ⟨Ad, cd, Aa, ca, Ak, ck⟩ := s
  simp only
  obtain ⟨W, hW, HB, hsz, HG⟩ := boxed w #[.int .i64 n.kind, .string n.pre, .string n.loc, .string n.uri, .slice Ad n.decls.length cd, .slice Aa n.attrs.length ca, .slice Ak n.kids.length ck, .string n.text] 28
  have HN := Aside0.mk (ih W (hn.below HB) (hr.below HB))
  clear ih hn hr
  have HW := Aside0.mk hW
  clear hW
  obtain ⟨c0, c1, c2, c3, c4, c5, c6, c7⟩ := box_cells HG
  clear HG
  have cd' := ((bcell HB).1 g 0 hg).trans hc
  simp only at HN
  go_enter Tryz.func122, Tryz.ntmps122
  go_upto_region 1 with fail
  rw [← HW.out]
  go_wp2_with fail
  refine (HN.out).mono ?_
  rintro e w1 ⟨rfl, hb1⟩
  go_wp2
  go_ret
  exact ⟨rfl, below_then HB hb1⟩
theorem all_not {α : Type} {p : α → Bool} (l : List α) : (l.any fun x => !p x) = !l.all p := by rw [List.all_eq_not_any_not, Bool.not_not]
theorem implFitsIn_calls : ∀ (N : Nat) (n : Nd) (s : Sh) (A : Option Addr) (c : Nat) (l : List Dcl) (w : World) (ok o2 : Nat → Prop), cnt n ≤ N → l.length + wt n ≤ 2097152 → l.length ≤ c → NodeIs w ok n s → Row Kd.dcl w o2 A l →
    Calls Tryz.prog 84 #[.agg #[.int .i64 n.kind, .string n.pre, .string n.loc, .string n.uri, .slice s.Ad n.decls.length s.cd, .slice s.Aa n.attrs.length s.ca, .slice s.Ak n.kids.length s.ck, .string n.text], .slice A l.length c] w fun e w' => e = .returned (.bool (fitsIn n l)) ∧ Below w.heap.size w w' := by
  intro N
  induction N with
  | zero => intro n s A c l w ok o2 h0; rw [cnt_eq] at h0; omega
  | succ N ih =>
  rintro ⟨kind, pre, loc, uri, decls, attrs, kids, text⟩ ⟨Ad, cd, Aa, ca, Ak, ck⟩ A c l w ok o2 hN hwt hlc hn hl
  have hll : l.length ≤ 2097152 := by omega
  have hld : l.length + decls.length ≤ 2097152 := by rw [wt] at hwt; omega
  have hdm : decls.length ≤ 2097152 := by omega
  have IH := Aside0.mk (fun k (hk : k ∈ kids) s W A c (l2 : List Dcl) o2 (h1 : l2.length = l.length + decls.length) (h2 : l2.length ≤ c) => ih k s A c l2 W ok o2
    (by obtain ⟨i, hi, rfl⟩ := List.getElem_of_mem hk; exact Nat.le_of_lt_succ (Nat.lt_of_lt_of_le (cnt_kid (n := ⟨kind, pre, loc, uri, decls, attrs, kids, text⟩) (i := i) hi) hN))
    (by have : decls.length + wt k ≤ _ := wt_kid_decls (n := ⟨kind, pre, loc, uri, decls, attrs, kids, text⟩) hk; omega) h2)
  obtain ⟨R, hR⟩ : ∃ R, R = fitsIn ⟨kind, pre, loc, uri, decls, attrs, kids, text⟩ l := ⟨_, rfl⟩
  have HR := Aside0.mk (show R = ((decide (¬ kind = 1) || meansB (l ++ decls) pre uri) && (attrs.all (attrFits (l ++ decls)) && kids.all fun k => fitsIn k (l ++ decls))) from hR.trans (fitsIn_eq _ l))
  rw [← hR]
  obtain ⟨W, hW, HB, hsz, HG⟩ := boxed w #[.int .i64 kind, .string pre, .string loc, .string uri, .slice Ad decls.length cd, .slice Aa attrs.length ca, .slice Ak kids.length ck, .string text] 28
  have HL := Aside0.mk (implInner_calls A Ad c cd l decls W (hl.below HB) (hn.decls.below HB) hlc hn.cd hll hdm)
  have Hat := Aside0.mk (show ∀ W1, Below W.heap.size W W1 → Row Kd.atr W1 ok Aa attrs from fun W1 hb => hn.attrs.below (below_then HB hb))
  have Hkd := Aside0.mk (show ∀ W1, Below W.heap.size W W1 → Row Kd.node W1 ok Ak kids from fun W1 hb => hn.kids.below (below_then HB hb))
  have ham : attrs.length ≤ 9223372036854775807 := hn.attrs.max
  have hkm : kids.length ≤ 9223372036854775807 := hn.kids.max
  have K := Aside0.mk (fun W1 hb => box_cells (((hb : Below W.heap.size W W1).block _ hsz).trans HG))
  obtain ⟨L, hL⟩ : ∃ L, L = l ++ decls := ⟨_, rfl⟩
  have hLl := Aside0.mk (show L.length = l.length + decls.length by rw [hL, List.length_append])
  have hLn : L.length ≤ 2097152 := by rw [hLl.out]; exact hld
  rw [← hL] at HL HR
  have HW := Aside0.mk hW
  clear hW
  simp only at ⊢
  clear HG hn hl ih hN hwt hR hL hlc
  go_enter Tryz.func84, Tryz.ntmps84
  go_upto_region 1 with fail
  rw [← HW.out]
  obtain ⟨a0, a1, a2, a3, a4, a5, a6, a7⟩ := K.out _ (Below.refl _ _)
  go_wp2_with fail
  refine (HL.out).mono ?_
  rintro e w1 ⟨⟨A1, c1, rfl, hc1, hr1⟩, hb1⟩
  clear a0 a1 a2 a3 a4 a5 a6 a7
  obtain ⟨W2, hW2, HB2, hsz2, HG2⟩ := boxed w1 #[.slice A1 L.length c1] 24
  obtain ⟨W3, hW3, HB3, hsz3, HG3⟩ := boxed W2 #[.func (.func 117) #[] #[.pointer (some ⟨w1.heap.size, 0, none⟩)]] 136
  have z2 : W2.heap.size = w1.heap.size + 1 := by rw [hW2]; exact Array.size_push _
  rw [z2] at hsz3 HG3
  have hb23 := below_then HB2 HB3
  have hb13 := below_then hb1 hb23
  have KO := Aside0.mk (show ∀ W1, Below W3.heap.size W3 W1 → W1.cell? ⟨w1.heap.size, 0, none⟩ = some (.slice A1 L.length c1) ∧ W1.cell? ⟨w1.heap.size + 1, 0, none⟩ = some (.func (.func 117) #[] #[.pointer (some ⟨w1.heap.size, 0, none⟩)]) ∧ w1.heap.size < W1.heap.size ∧ w1.heap.size + 1 < W1.heap.size from
    fun W1 hb => ⟨cell_of_row W1 _ 0 _ _ _ (((below_then HB3 hb).block _ hsz2).trans HG2), cell_of_row W1 _ 0 _ _ _ ((hb.block _ hsz3).trans HG3), by have := hb.size; omega, by have := hb.size; omega⟩)
  have HRow := Aside0.mk (fun W1 (hb : Below W3.heap.size W3 W1) => hr1.below (below_then hb23 hb))
  have HW3 := Aside0.mk (show W3 = (w1.alloc (.cells #[.slice A1 L.length c1] 24)).alloc (.cells #[.func (.func 117) #[] #[.pointer (some ⟨w1.heap.size, 0, none⟩)]] 136) by rw [hW3, hW2])
  clear hr1 hW2 hW3 HG2 HG3 z2
  go_upto_region 3 with fail
  rw [← HW3.out]
  by_cases hk : kind = 1
  case neg =>
    have HR2 := Aside0.mk (show R = (attrs.all (attrFits L) && kids.all fun k => fitsIn k L) by rw [HR.out, decide_eq_true hk]; rfl)
    have bk : (kind == 1) = false := by simpa using hk
    have hbq : Below W3.heap.size W3 W3 := Below.refl _ _
    have hbw := below_then hb13 hbq
    obtain ⟨a0, a1, a2, a3, a4, a5, a6, a7⟩ := K.out _ hbw
    obtain ⟨o0, o1, o2', o3⟩ := KO.out _ hbq
    go_wp2_with fail
    refine (ContainsFunc_atr (fun a => !attrFits L a) 120 #[.pointer (some ⟨w1.heap.size + 1, 0, none⟩)] (enters_of Tryz.func120 (by kernel_rfl) rfl) _ _ _ _ (Hat.out _ hbw)
      (fun W' x hx hb => by
        obtain ⟨e0, e1, e2, e3⟩ := KO.out W' (below_then hbq hb)
        exact fits2_calls _ _ A1 c1 L x W' e1 e0 e3 e2 (HRow.out _ (below_then hbq hb)) hLn)).mono ?_
    rintro e w5 ⟨rfl, hb5⟩
    rw [all_not]
    have hbq5 := below_then hbq hb5
    have hbw5 := below_then hb13 hbq5
    clear a0 a1 a2 a3 a4 a5 a6 a7 o0 o1 o2' o3
    obtain ⟨a0, a1, a2, a3, a4, a5, a6, a7⟩ := K.out _ hbw5
    obtain ⟨o0, o1, o2', o3⟩ := KO.out _ hbq5
    cases ht : attrs.all (attrFits L) with
    | false =>
      have hfin := Aside0.mk (show R = false by rw [HR2.out, ht]; rfl)
      clear ht
      go_wp2
      go_ret
      exact ⟨by rw [hfin.out]; rfl, below_then HB hbw5⟩
    | true =>
      have hfin := Aside0.mk (show R = kids.all fun k => fitsIn k L by rw [HR2.out, ht]; rfl)
      clear ht
      go_wp2_with fail
      refine (ContainsFunc_node (fun k => !fitsIn k L) 122 #[.pointer (some ⟨w1.heap.size, 0, none⟩)] (enters_of Tryz.func122 (by kernel_rfl) rfl) _ _ _ _ (Hkd.out _ hbw5)
        (fun W' x sx hx hxn hb => by
          obtain ⟨e0, e1, e2, e3⟩ := KO.out W' (below_then hbq5 hb)
          exact fits3_calls _ A1 c1 L x sx W' e0 e2 hxn (HRow.out _ (below_then hbq5 hb)) (fun V h1 h2 => IH.out x hx sx V A1 c1 L _ hLl.out hc1 h1 h2))).mono ?_
      rintro e w6 ⟨rfl, hb6⟩
      rw [all_not]
      go_wp2
      go_ret
      exact ⟨by rw [hfin.out, ← Bool.not_not (kids.all fun k => fitsIn k L)]; rfl, below_then HB (below_then hbw5 hb6)⟩
  subst hk
  have HR := Aside0.mk (show R = (meansB L pre uri && (attrs.all (attrFits L) && kids.all fun k => fitsIn k L)) by rw [HR.out]; rfl)
  obtain ⟨a0, a1, a2, a3, a4, a5, a6, a7⟩ := K.out _ hb13
  obtain ⟨o0, o1, o2', o3⟩ := KO.out _ (Below.refl _ _)
  have HM := Aside0.mk (means_calls w1.heap.size A1 c1 L pre uri W3 o0 (HRow.out _ (Below.refl _ _)) hLn)
  go_wp2_with fail
  refine (HM.out).mono ?_
  rintro e w4 ⟨rfl, hbq⟩
  clear a0 a1 a2 a3 a4 a5 a6 a7 o0 o1 o2' o3
  cases hm : meansB L pre uri with
  | false =>
    have hfin := Aside0.mk (show R = false by rw [HR.out, hm]; rfl)
    clear hm
    go_wp2
    go_ret
    exact ⟨by rw [hfin.out]; rfl, below_then HB (below_then hb13 hbq)⟩
  | true =>
    have HR2 := Aside0.mk (show R = (attrs.all (attrFits L) && kids.all fun k => fitsIn k L) by rw [HR.out, hm]; rfl)
    clear hm
    have hbw := below_then hb13 hbq
    obtain ⟨a0, a1, a2, a3, a4, a5, a6, a7⟩ := K.out _ hbw
    obtain ⟨o0, o1, o2', o3⟩ := KO.out _ hbq
    go_wp2_with fail
    refine (ContainsFunc_atr (fun a => !attrFits L a) 120 #[.pointer (some ⟨w1.heap.size + 1, 0, none⟩)] (enters_of Tryz.func120 (by kernel_rfl) rfl) _ _ _ _ (Hat.out _ hbw)
      (fun W' x hx hb => by
        obtain ⟨e0, e1, e2, e3⟩ := KO.out W' (below_then hbq hb)
        exact fits2_calls _ _ A1 c1 L x W' e1 e0 e3 e2 (HRow.out _ (below_then hbq hb)) hLn)).mono ?_
    rintro e w5 ⟨rfl, hb5⟩
    rw [all_not]
    have hbq5 := below_then hbq hb5
    have hbw5 := below_then hb13 hbq5
    clear a0 a1 a2 a3 a4 a5 a6 a7 o0 o1 o2' o3
    obtain ⟨a0, a1, a2, a3, a4, a5, a6, a7⟩ := K.out _ hbw5
    obtain ⟨o0, o1, o2', o3⟩ := KO.out _ hbq5
    cases ht : attrs.all (attrFits L) with
    | false =>
      have hfin := Aside0.mk (show R = false by rw [HR2.out, ht]; rfl)
      clear ht
      go_wp2
      go_ret
      exact ⟨by rw [hfin.out]; rfl, below_then HB hbw5⟩
    | true =>
      have hfin := Aside0.mk (show R = kids.all fun k => fitsIn k L by rw [HR2.out, ht]; rfl)
      clear ht
      go_wp2_with fail
      refine (ContainsFunc_node (fun k => !fitsIn k L) 122 #[.pointer (some ⟨w1.heap.size, 0, none⟩)] (enters_of Tryz.func122 (by kernel_rfl) rfl) _ _ _ _ (Hkd.out _ hbw5)
        (fun W' x sx hx hxn hb => by
          obtain ⟨e0, e1, e2, e3⟩ := KO.out W' (below_then hbq5 hb)
          exact fits3_calls _ A1 c1 L x sx W' e0 e2 hxn (HRow.out _ (below_then hbq5 hb)) (fun V h1 h2 => IH.out x hx sx V A1 c1 L _ hLl.out hc1 h1 h2))).mono ?_
      rintro e w6 ⟨rfl, hb6⟩
      rw [all_not]
      go_wp2
      go_ret
      exact ⟨by rw [hfin.out, ← Bool.not_not (kids.all fun k => fitsIn k L)]; rfl, below_then HB (below_then hbw5 hb6)⟩
/-- A slice without elements. -/
theorem implTreeOk_calls (n : Nd) (s : Sh) (w : World) (ok : Nat → Prop) (hwt : wt n ≤ 1048576) (hn : NodeIs w ok n s) (hE : Env w) (hF : Folds w) :
    Calls Tryz.prog 41 #[.agg #[.int .i64 n.kind, .string n.pre, .string n.loc, .string n.uri, .slice s.Ad n.decls.length s.cd, .slice s.Aa n.attrs.length s.ca, .slice s.Ak n.kids.length s.ck, .string n.text]] w fun e w' => e = .returned (.bool (treeOk n)) ∧ Below w.heap.size w w' := by
  obtain ⟨Ad, cd, Aa, ca, Ak, ck⟩ := s
  obtain ⟨R, hR⟩ : ∃ R, R = treeOk n := ⟨_, rfl⟩
  have HR := Aside0.mk (show R = (decide (n.kind = 0) && (nodeOk n && fitsIn n [])) from hR)
  rw [← hR]
  obtain ⟨W, hW, HB, hsz, HG⟩ := boxed w #[.int .i64 n.kind, .string n.pre, .string n.loc, .string n.uri, .slice Ad n.decls.length cd, .slice Aa n.attrs.length ca, .slice Ak n.kids.length ck, .string n.text] 28
  have HN := Aside0.mk (implNodeOk_calls n ⟨Ad, cd, Aa, ca, Ak, ck⟩ W ok hwt (hn.below HB) (hE.below HB) (hF.below HB))
  have HI := Aside0.mk (fun W1 (hb : Below W.heap.size W W1) => implFitsIn_calls (cnt n) n ⟨Ad, cd, Aa, ca, Ak, ck⟩ none 0 [] W1 ok (fun _ => True) (Nat.le_refl _) (by simp; omega) (Nat.le_refl _) (hn.below (below_then HB hb)) (Row.nil _ _ _ _))
  have K := Aside0.mk (fun W1 hb => box_cells (((hb : Below W.heap.size W W1).block _ hsz).trans HG))
  have HW := Aside0.mk hW
  simp only [List.length_nil] at HN HI ⊢
  obtain ⟨kd, hkd⟩ : ∃ kd, kd = n.kind := ⟨_, rfl⟩
  obtain ⟨no, hno⟩ : ∃ no, no = nodeOk n := ⟨_, rfl⟩
  obtain ⟨fi, hfi⟩ : ∃ fi, fi = fitsIn n [] := ⟨_, rfl⟩
  rw [← hkd] at HR HN HI K HW ⊢
  rw [← hno] at HR HN
  rw [← hfi] at HR HI
  clear hW HG hn hE hF hR hkd hno hfi
  by_cases hk : kd = 0
  · have HR := Aside0.mk (show R = (no && fi) by rw [HR.out, decide_eq_true hk]; rfl)
    subst hk
    go_enter Tryz.func41, Tryz.ntmps41
    go_upto_region 1 with fail
    rw [← HW.out]
    obtain ⟨c0, c1, c2, c3, c4, c5, c6, c7⟩ := K.out _ (Below.refl _ _)
    go_wp2_with fail
    refine (HN.out).mono ?_
    rintro e w1 ⟨rfl, hb1⟩
    clear c0 c1 c2 c3 c4 c5 c6 c7
    obtain ⟨c0, c1, c2, c3, c4, c5, c6, c7⟩ := K.out _ hb1
    cases no with
    | false =>
      have hfin := Aside0.mk (show R = false by rw [HR.out]; rfl)
      go_wp2
      go_ret
      exact ⟨by rw [hfin.out]; rfl, below_then HB hb1⟩
    | true =>
      have hfin := Aside0.mk (show R = fi by rw [HR.out]; rfl)
      go_wp2_with fail
      refine (HI.out _ hb1).mono ?_
      rintro e w2 ⟨rfl, hb2⟩
      go_wp2
      go_ret
      exact ⟨by rw [hfin.out]; rfl, below_then HB (below_then hb1 hb2)⟩
  · have hfin := Aside0.mk (show R = false by rw [HR.out, decide_eq_false hk]; rfl)
    have bk : (kd == 0) = false := by simpa using hk
    go_enter Tryz.func41, Tryz.ntmps41
    go_upto_region 1 with fail
    rw [← HW.out]
    obtain ⟨c0, c1, c2, c3, c4, c5, c6, c7⟩ := K.out _ (Below.refl _ _)
    go_wp2
    go_ret
    exact ⟨by rw [hfin.out]; rfl, HB⟩
theorem specTreeOk_calls (n : Nd) (s : Sh) (w : World) (ok : Nat → Prop) (hwt : wt n ≤ 1048576) (hn : NodeIs w ok n s) :
    Calls Tryz.prog 49 #[.agg #[.int .i64 n.kind, .string n.pre, .string n.loc, .string n.uri, .slice s.Ad n.decls.length s.cd, .slice s.Aa n.attrs.length s.ca, .slice s.Ak n.kids.length s.ck, .string n.text]] w fun e w' => e = .returned (.bool (treeOk n)) ∧ Below w.heap.size w w' := by
  obtain ⟨Ad, cd, Aa, ca, Ak, ck⟩ := s
  obtain ⟨R, hR⟩ : ∃ R, R = treeOk n := ⟨_, rfl⟩
  have HR := Aside0.mk (show R = (decide (n.kind = 0) && (nodeOk n && fitsIn n [])) from hR)
  rw [← hR]
  obtain ⟨W, hW, HB, hsz, HG⟩ := boxed w #[.int .i64 n.kind, .string n.pre, .string n.loc, .string n.uri, .slice Ad n.decls.length cd, .slice Aa n.attrs.length ca, .slice Ak n.kids.length ck, .string n.text] 28
  have HN := Aside0.mk (specNodeOk_calls n ⟨Ad, cd, Aa, ca, Ak, ck⟩ W ok hwt (hn.below HB))
  have HI := Aside0.mk (fun (A : Option Addr) (W1 : World) (hb : Below W.heap.size W W1) => specFitsIn_calls (cnt n) n ⟨Ad, cd, Aa, ca, Ak, ck⟩ A 0 [] W1 ok (fun _ => True) (Nat.le_refl _) (by simp; omega) (hn.below (below_then HB hb)) (Row.nil _ _ _ _))
  have K := Aside0.mk (fun W1 hb => box_cells (((hb : Below W.heap.size W W1).block _ hsz).trans HG))
  have HW := Aside0.mk hW
  simp only [List.length_nil] at HN HI ⊢
  obtain ⟨kd, hkd⟩ : ∃ kd, kd = n.kind := ⟨_, rfl⟩
  obtain ⟨no, hno⟩ : ∃ no, no = nodeOk n := ⟨_, rfl⟩
  obtain ⟨fi, hfi⟩ : ∃ fi, fi = fitsIn n [] := ⟨_, rfl⟩
  rw [← hkd] at HR HN HI K HW ⊢
  rw [← hno] at HR HN
  rw [← hfi] at HR HI
  clear hW HG hn hR hkd hno hfi
  by_cases hk : kd = 0
  · have HR := Aside0.mk (show R = (no && fi) by rw [HR.out, decide_eq_true hk]; rfl)
    subst hk
    go_enter Tryz.func49, Tryz.ntmps49
    go_upto_region 1 with fail
    rw [← HW.out]
    obtain ⟨c0, c1, c2, c3, c4, c5, c6, c7⟩ := K.out _ (Below.refl _ _)
    go_wp2_with fail
    refine (HN.out).mono ?_
    rintro e w1 ⟨rfl, hb1⟩
    clear c0 c1 c2 c3 c4 c5 c6 c7
    obtain ⟨c0, c1, c2, c3, c4, c5, c6, c7⟩ := K.out _ hb1
    cases no with
    | false =>
      have hfin := Aside0.mk (show R = false by rw [HR.out]; rfl)
      go_wp2
      go_ret
      exact ⟨by rw [hfin.out]; rfl, below_then HB hb1⟩
    | true =>
      have hfin := Aside0.mk (show R = fi by rw [HR.out]; rfl)
      go_wp2_with fail
      refine (HI.out _ _ (below_alloc hb1 _)).mono ?_
      rintro e w2 ⟨rfl, hb2⟩
      go_wp2
      go_ret
      exact ⟨by rw [hfin.out]; rfl, below_then HB (below_then (below_alloc hb1 _) hb2)⟩
  · have hfin := Aside0.mk (show R = false by rw [HR.out, decide_eq_false hk]; rfl)
    have bk : (kd == 0) = false := by simpa using hk
    go_enter Tryz.func49, Tryz.ntmps49
    go_upto_region 1 with fail
    rw [← HW.out]
    obtain ⟨c0, c1, c2, c3, c4, c5, c6, c7⟩ := K.out _ (Below.refl _ _)
    go_wp2
    go_ret
    exact ⟨by rw [hfin.out]; rfl, HB⟩
end Go.Proofs.YtpcklgkpjmmakaaGreatDoor
