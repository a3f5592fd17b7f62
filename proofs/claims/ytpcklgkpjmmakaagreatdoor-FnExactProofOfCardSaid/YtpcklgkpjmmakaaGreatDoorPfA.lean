/- Joined: PfP, NodeAt. -/
import Derived.Test.YtpcklgkpjmmakaaGreatDoorAlS
import Derived.Test.YtpcklgkpjmmakaaGreatDoorPo
import Derived.Test.YtpcklgkpjmmakaaGreatDoorCopyS
import Derived.Test.YtpcklgkpjmmakaaGreatDoorBase
import Derived.Deep.RegionHeld3
section
/- A node at a place, and what proves it, in plain Lean. No program here. -/
namespace Go.Proofs.YtpcklgkpjmmakaaGreatDoor
open Go.RowKit
set_option linter.unusedVariables false
def nodeAt : List Int → Nd → Option Nd
  | [], n => some n
  | i :: p, n => if (decide (0 ≤ i) && decide (i ≤ (n.kids.length : Int) - 1)) = true then nodeAt p (n.kids[i.toNat]?.getD n) else none
theorem nodeAt_bad {i : Int} {p : List Int} {n : Nd} (h : (decide (0 ≤ i) && decide (i ≤ (n.kids.length : Int) - 1)) = false) : nodeAt (i :: p) n = none := by
  rw [nodeAt, if_neg (by rw [h]; decide)]
theorem nodeAt_good {i : Int} {m : Nat} {p : List Int} {n : Nd} (e : i = (m : Int)) (hm : m < n.kids.length) : nodeAt (i :: p) n = nodeAt p (n.kids[m]'hm) := by
  subst e
  rw [nodeAt, if_pos (by simp; omega), Int.toNat_natCast, List.getElem?_eq_getElem hm]
  rfl
theorem in_kid {i : Int} {n : Nat} (h : (decide (0 ≤ i) && decide (i ≤ (n : Int) - 1)) = true) : ∃ m : Nat, i = (m : Int) ∧ m < n := by
  simp only [Bool.and_eq_true, decide_eq_true_eq] at h
  exact ⟨i.toNat, by omega, by omega⟩
theorem nodeAt_step {i : Int} {p : List Int} {n x : Nd} (h : nodeAt (i :: p) n = some x) : ∃ (m : Nat) (hm : m < n.kids.length), i = (m : Int) ∧ nodeAt p (n.kids[m]'hm) = some x := by
  cases hb : (decide (0 ≤ i) && decide (i ≤ (n.kids.length : Int) - 1)) with
  | false => rw [nodeAt_bad hb] at h; cases h
  | true =>
    obtain ⟨m, e, hm⟩ := in_kid hb
    exact ⟨m, hm, e, by rw [← nodeAt_good e hm]; exact h⟩
def intsN (l : List Nat) : List Int := l.map fun (x : Nat) => (x : Int)
def pfOwn : List Int → Nd → List Int
  | [], _ => []
  | i :: p, n => (hashB (wNode (alone n)) : Int) :: pfOwn p (n.kids[i.toNat]?.getD n)
def pfKids : List Int → Nd → List (List Int)
  | [], _ => []
  | i :: p, n => intsN (sumsN n.kids) :: pfKids p (n.kids[i.toNat]?.getD n)
theorem pfOwn_good {i : Int} {m : Nat} {p : List Int} {n : Nd} (e : i = (m : Int)) (hm : m < n.kids.length) : pfOwn (i :: p) n = (hashB (wNode (alone n)) : Int) :: pfOwn p (n.kids[m]'hm) := by
  subst e
  rw [pfOwn, Int.toNat_natCast, List.getElem?_eq_getElem hm]
  rfl
theorem pfKids_good {i : Int} {m : Nat} {p : List Int} {n : Nd} (e : i = (m : Int)) (hm : m < n.kids.length) : pfKids (i :: p) n = intsN (sumsN n.kids) :: pfKids p (n.kids[m]'hm) := by
  subst e
  rw [pfKids, Int.toNat_natCast, List.getElem?_eq_getElem hm]
  rfl
theorem pfOwn_length : ∀ (p : List Int) (n : Nd), (pfOwn p n).length = p.length
  | [], _ => rfl
  | _ :: p, n => by rw [pfOwn, List.length_cons, pfOwn_length p, List.length_cons]
theorem pfKids_length : ∀ (p : List Int) (n : Nd), (pfKids p n).length = p.length
  | [], _ => rfl
  | _ :: p, n => by rw [pfKids, List.length_cons, pfKids_length p, List.length_cons]
/-- A node that is met on a way: it is no heavier. -/
theorem wt_at {n : Nd} {i : Nat} (hi : i < n.kids.length) : wt (n.kids[i]'hi) ≤ wt n := by
  have h1 := sumOf_mem wt n.kids _ (List.getElem_mem hi)
  rw [wt_eq n, wtL_eq]
  omega
end Go.Proofs.YtpcklgkpjmmakaaGreatDoor
end
section
/- NodeAt, of both. -/
namespace Go.Proofs.YtpcklgkpjmmakaaGreatDoor
open Go.RowKit Go.Lib
set_option linter.unusedVariables false
set_option linter.unusedSimpArgs false
set_option maxHeartbeats 8000000
set_option maxRecDepth 100000
def nd0 : Nd := ⟨0, ⟨#[]⟩, ⟨#[]⟩, ⟨#[]⟩, [], [], [], ⟨#[]⟩⟩
def NdOut (o : Option Nd) (w : World) (e : Ending) (w' : World) : Prop := (∃ s', e = .returned (.tuple #[.agg ((o.getD nd0).cells s').toArray, .bool o.isSome]) ∧ NodeIs w' (fun k => w.heap.size ≤ k) (o.getD nd0) s') ∧ Below w.heap.size w w'
/-- A box that holds a node whose lists lie in w. -/
structure XB (w W : World) (ok : Nat → Prop) (T : TypeId) (g : Nat) (x : Nd) (s : Sh) : Prop where
  below : Below w.heap.size w W
  ge : w.heap.size ≤ g
  box : W.heap[g]? = some (.cells (x.cells s).toArray T (0, 0))
  node : NodeIs w ok x s
theorem XB.lt {w W : World} {ok : Nat → Prop} {T : TypeId} {g : Nat} {x : Nd} {s : Sh} (h : XB w W ok T g x s) : g < W.heap.size := (Array.getElem?_eq_some_iff.1 h.box).1
theorem XB.next {w W W1 : World} {ok : Nat → Prop} {T : TypeId} {g : Nat} {x : Nd} {s : Sh} (h : XB w W ok T g x s) (hb : Below W.heap.size W W1) : XB w W1 ok T g x s := ⟨below_then h.below hb, h.ge, (hb.block _ h.lt).trans h.box, h.node⟩
theorem XB.cells {w W : World} {ok : Nat → Prop} {T : TypeId} {g : Nat} {x : Nd} {s : Sh} (h : XB w W ok T g x s) :
    W.cell? ⟨g, 0, none⟩ = some (.int .i64 x.kind) ∧ W.cell? ⟨g, 1, none⟩ = some (.string x.pre) ∧ W.cell? ⟨g, 2, none⟩ = some (.string x.loc) ∧ W.cell? ⟨g, 3, none⟩ = some (.string x.uri) ∧ W.cell? ⟨g, 4, none⟩ = some (.slice s.Ad x.decls.length s.cd) ∧
    W.cell? ⟨g, 5, none⟩ = some (.slice s.Aa x.attrs.length s.ca) ∧ W.cell? ⟨g, 6, none⟩ = some (.slice s.Ak x.kids.length s.ck) ∧ W.cell? ⟨g, 7, none⟩ = some (.string x.text) := box_cells h.box
theorem XB.frozen {w W : World} {ok : Nat → Prop} {T : TypeId} {g : Nat} {x : Nd} {s : Sh} (h : XB w W ok T g x s) (o : Nat) : W.frozen? ⟨g, o, none⟩ = false := frozen_of_row W g o _ _ h.box
theorem XB.here {w W : World} {ok : Nat → Prop} {T : TypeId} {g : Nat} {x : Nd} {s : Sh} (h : XB w W ok T g x s) : NodeIs W ok x s := h.node.below h.below
theorem XB.put {w W Y : World} {ok : Nat → Prop} {T : TypeId} {g : Nat} {x y : Nd} {s t : Sh} (h : XB w W ok T g x s) (hy : NodeIs w ok y t) (hY : Y = W.setCells g 0 (y.cells t)) :
    XB w Y ok T g y t ∧ Y.heap.size = W.heap.size ∧ ∀ k, k ≠ g → Y.heap[k]? = W.heap[k]? := by
  refine ⟨⟨?_, h.ge, ?_, hy⟩, by rw [hY]; exact setCells_size _ _ _ _, fun k hk => by rw [hY]; exact setCells_same _ _ _ _ _ hk⟩
  · rw [hY]; exact setCells_below _ _ _ _ _ h.below h.ge
  · rw [hY]; exact set8 (by exact h.box) _ _ _ _ _ _ _ _
/-- A kid of a node. -/
theorem kid_is {w : World} {ok : Nat → Prop} {n : Nd} {s : Sh} (hn : NodeIs w ok n s) (i : Nat) (hi : i < n.kids.length) : ∃ b o t, s.Ak = some ⟨b, o, none⟩ ∧ b < w.heap.size ∧ NodeIs w ok (n.kids[i]'hi) t ∧
      w.cell? ⟨b, o + i * 8, none⟩ = some (.int .i64 (n.kids[i]'hi).kind) ∧ w.cell? ⟨b, o + i * 8 + 1, none⟩ = some (.string (n.kids[i]'hi).pre) ∧ w.cell? ⟨b, o + i * 8 + 2, none⟩ = some (.string (n.kids[i]'hi).loc) ∧
      w.cell? ⟨b, o + i * 8 + 3, none⟩ = some (.string (n.kids[i]'hi).uri) ∧ w.cell? ⟨b, o + i * 8 + 4, none⟩ = some (.slice t.Ad (n.kids[i]'hi).decls.length t.cd) ∧ w.cell? ⟨b, o + i * 8 + 5, none⟩ = some (.slice t.Aa (n.kids[i]'hi).attrs.length t.ca) ∧
      w.cell? ⟨b, o + i * 8 + 6, none⟩ = some (.slice t.Ak (n.kids[i]'hi).kids.length t.ck) ∧ w.cell? ⟨b, o + i * 8 + 7, none⟩ = some (.string (n.kids[i]'hi).text) := node_at hn.kids i hi
theorem drop_at {α : Type} {l : List α} {j : Nat} (h : j < l.length) : l.drop j = l[j]'h :: l.drop (j + 1) := List.drop_eq_getElem_cons h
def sh0 : Sh := ⟨none, 0, none, 0, none, 0⟩
theorem nd0_is (w : World) (ok : Nat → Prop) : NodeIs w ok nd0 sh0 := ⟨Nat.le_refl _, Row.nil _ _ _ _, Nat.le_refl _, Row.nil _ _ _ _, Nat.le_refl _, Row.nil _ _ _ _⟩
/-- The box of a result is filled. -/
theorem out_put {w X Y : World} {g : Nat} {T : TypeId} {y : Nd} {t : Sh} (hb : Below w.heap.size w X) (hg : w.heap.size ≤ g) (hx : ∃ x0 x1 x2 x3 x4 x5 x6 x7, X.heap[g]? = some (.cells #[x0, x1, x2, x3, x4, x5, x6, x7] T (0, 0)))
    (hY : Y = X.setCells g 0 (y.cells t)) : Below w.heap.size w Y ∧ Y.heap[g]? = some (.cells (y.cells t).toArray T (0, 0)) ∧ ∀ k, k ≠ g → Y.heap[k]? = X.heap[k]? := by
  obtain ⟨x0, x1, x2, x3, x4, x5, x6, x7, hx⟩ := hx
  refine ⟨by rw [hY]; exact setCells_below _ _ _ _ _ hb hg, by rw [hY]; exact set8 hx _ _ _ _ _ _ _ _, fun k hk => by rw [hY]; exact setCells_same _ _ _ _ _ hk⟩
def zeros8 : Array Value := #[.int .i64 0, .string ⟨#[]⟩, .string ⟨#[]⟩, .string ⟨#[]⟩, .slice none 0 0, .slice none 0 0, .slice none 0 0, .string ⟨#[]⟩]
/-- What stands at a function's start: the parameter's box and the result's. -/
structure NS (w W : World) (ok : Nat → Prop) (g : Nat) (x : Nd) (s : Sh) : Prop where
  xb : XB w W ok 28 g x s
  out : W.heap[w.heap.size + 1]? = some (.cells zeros8 28 (0, 0))
theorem NS.outlt {w W : World} {ok : Nat → Prop} {g : Nat} {x : Nd} {s : Sh} (h : NS w W ok g x s) : w.heap.size + 1 < W.heap.size := (Array.getElem?_eq_some_iff.1 h.out).1
theorem NS.next {w W W1 : World} {ok : Nat → Prop} {g : Nat} {x : Nd} {s : Sh} (h : NS w W ok g x s) (hb : Below W.heap.size W W1) : NS w W1 ok g x s := ⟨h.xb.next hb, (hb.block _ h.outlt).trans h.out⟩
theorem NS.put {w W Y : World} {ok : Nat → Prop} {g : Nat} {x y : Nd} {s t : Sh} (h : NS w W ok g x s) (hg : g ≠ w.heap.size + 1) (hy : NodeIs w ok y t) (hY : Y = W.setCells g 0 (y.cells t)) : NS w Y ok g y t := by
  obtain ⟨h1, _, h2⟩ := h.xb.put hy hY
  exact ⟨h1, (h2 _ hg.symm).trans h.out⟩
theorem NS.start {w : World} {ok : Nat → Prop} {n : Nd} {s : Sh} (hn : NodeIs w ok n s) : NS w ((w.alloc (.cells (n.cells s).toArray 28)).alloc (.cells zeros8 28)) ok w.heap.size n s := by
  have s1 := alloc_size w (.cells (n.cells s).toArray 28)
  refine ⟨⟨below_alloc (below_alloc (Below.refl _ _) _) _, Nat.le_refl _, ?_, hn⟩, ?_⟩
  · rw [alloc_old _ _ _ (by omega)]; exact alloc_at _ _
  · rw [← s1]; exact alloc_at _ _
theorem implNodeAt_calls {ok o1 : Nat → Prop} (n : Nd) (s : Sh) (P : Option Addr) (path : List Int) (cp : Nat) (w : World) (hwt : wt n ≤ 1048576) (hn : NodeIs w ok n s) (hp : Row (Kd.int .i64) w o1 P path) :
    Calls Tryz.prog 40 #[.agg #[.int .i64 n.kind, .string n.pre, .string n.loc, .string n.uri, .slice s.Ad n.decls.length s.cd, .slice s.Aa n.attrs.length s.ca, .slice s.Ak n.kids.length s.ck, .string n.text], .slice P path.length cp] w (NdOut (nodeAt path n) w) := by
  obtain ⟨R, hR⟩ : ∃ R, R = nodeAt path n := ⟨_, rfl⟩
  rw [← hR]
  have hpm := hp.max
  have HR := Aside0.mk hR
  have HP := Aside0.mk (fun W1 (hb : Below w.heap.size w W1) => hp.below hb)
  have HN0 := Aside0.mk (NS.start hn)
  have Hwt := Aside0.mk hwt
  clear hR hp hn hwt
  go_enter Tryz.func40, Tryz.ntmps40
  go_upto_region 1 with fail
  obtain ⟨W0, hW0⟩ : ∃ W0, W0 = ((w.alloc (.cells (n.cells s).toArray 28)).alloc (.cells zeros8 28)) := ⟨_, rfl⟩
  rw [← hW0] at HN0
  have hW0' : W0 = ((w.alloc (.cells #[.int .i64 n.kind, .string n.pre, .string n.loc, .string n.uri, .slice s.Ad n.decls.length s.cd, .slice s.Aa n.attrs.length s.ca, .slice s.Ak n.kids.length s.ck, .string n.text] 28)).alloc (.cells #[.int .i64 0, .string ⟨#[]⟩, .string ⟨#[]⟩, .string ⟨#[]⟩, .slice none 0 0, .slice none 0 0, .slice none 0 0, .string ⟨#[]⟩] 28)) := hW0
  rw [← hW0']
  clear hW0 hW0'
  go_wp2_with fail
  go_loopg [10] path.length (fun k i wr => ∃ (j : Nat) (x : Nd) (t : Sh), i = .int .i64 (j : Nat) ∧ j + k = path.length ∧ Aside (NS w wr ok w.heap.size x t) ∧ Aside (R = nodeAt (path.drop j) x) ∧ Aside (wt x ≤ 1048576))
  case atStart => exact ⟨0, n, s, rfl, by omega, HN0.out, HR.out, Hwt.out⟩
  case round =>
    obtain ⟨j, x, t, rfl, hk, hS, hR, hx⟩ := hrel
    have H1 := Aside0.mk hS.out
    have hwx := Aside0.mk hx.out
    clear hS hx
    by_cases hlt : j < path.length
    · obtain ⟨b, o, rfl, hbl, d⟩ := int_at (HP.out _ H1.out.xb.below) j hlt
      have hR1 := Aside0.mk (show R = nodeAt (path[j]'hlt :: path.drop (j + 1)) x by rw [hR.out, drop_at hlt])
      clear hR
      obtain ⟨v, hv⟩ : ∃ v, v = path[j]'hlt := ⟨_, rfl⟩
      rw [← hv] at d hR1
      have hkm := H1.out.xb.node.kids.max
      obtain ⟨c0, c1, c2, c3, c4, c5, c6, c7⟩ := H1.out.xb.cells
      clear hv
      cases hq : (decide (0 ≤ v) && decide (v ≤ (x.kids.length : Int) - 1)) with
      | false =>
        have hfin := Aside0.mk (show R = none by rw [hR1.out, nodeAt_bad hq])
        have HI := Aside0.mk (in_calls v 0 ((x.kids.length : Int) - 1) wr)
        rw [hq] at HI
        clear hq
        go_wp2_with fail
        refine (HI.out).mono ?_
        rintro e w4 ⟨rfl, rfl⟩
        obtain ⟨y0, y1, y2, y3, y4, y5, y6, y7⟩ := box_cells H1.out.out
        have fz := fun o => frozen_of_row _ (w.heap.size + 1) o _ _ H1.out.out
        have f0 := fz 0; have f1 := fz 1; have f2 := fz 2; have f3 := fz 3; have f4 := fz 4; have f5 := fz 5; have f6 := fz 6; have f7 := fz 7
        clear fz
        go_wp2
        obtain ⟨Y, hY⟩ : ∃ Y, Y = @wr.setCells (w.heap.size + 1) 0 (@nd0.cells @sh0) := ⟨_, rfl⟩
        have hYo := out_put (y := @nd0) (t := @sh0) @H1.out.xb.below (Nat.le_succ _) @⟨_, _, _, _, _, _, _, _, H1.out.out⟩ hY
        have hY' : Y = ((((((((@wr.setCell ⟨w.heap.size + 1, 0, none⟩ @(.int .i64 0)).setCell ⟨w.heap.size + 1, 1, none⟩ @(.string ⟨#[]⟩)).setCell ⟨w.heap.size + 1, 2, none⟩ @(.string ⟨#[]⟩)).setCell ⟨w.heap.size + 1, 3, none⟩ @(.string ⟨#[]⟩)).setCell ⟨w.heap.size + 1, 4, none⟩ @(.slice none 0 0)).setCell ⟨w.heap.size + 1, 5, none⟩ @(.slice none 0 0)).setCell ⟨w.heap.size + 1, 6, none⟩ @(.slice none 0 0)).setCell ⟨w.heap.size + 1, 7, none⟩ @(.string ⟨#[]⟩)) := hY
        rw [← hY']
        obtain ⟨p0, p1, p2, p3, p4, p5, p6, p7⟩ := box_cells hYo.2.1
        clear hY hY' y0 y1 y2 y3 y4 y5 y6 y7 f0 f1 f2 f3 f4 f5 f6 f7
        refine bodyPost_ret (v := .tuple #[.agg #[.int .i64 nd0.kind, .string nd0.pre, .string nd0.loc, .string nd0.uri, .slice sh0.Ad nd0.decls.length sh0.cd, .slice sh0.Aa nd0.attrs.length sh0.ca, .slice sh0.Ak nd0.kids.length sh0.ck, .string nd0.text], .bool false]) ?hres rfl ⟨⟨sh0, by rw [hfin.out]; rfl, by rw [hfin.out]; exact nd0_is _ _⟩, hYo.1⟩
        case hres => simp [results, Tryz.results40, go_sem, p0, p1, p2, p3, p4, p5, p6, p7]
      | true =>
        obtain ⟨m, rfl, hm⟩ := in_kid hq
        have hR2 := Aside0.mk (hR1.out.trans (nodeAt_good rfl hm))
        have HI := Aside0.mk (in_calls (m : Int) 0 ((x.kids.length : Int) - 1) wr)
        rw [hq] at HI
        obtain ⟨kb, ko, t2, hAk, hkb, hkn, e0, e1, e2, e3, e4, e5, e6, e7⟩ := kid_is H1.out.xb.node m hm
        have hw2 := Aside0.mk (Nat.le_trans (wt_at hm) hwx.out)
        obtain ⟨y, hy⟩ : ∃ y, y = x.kids[m]'hm := ⟨_, rfl⟩
        rw [← hy] at hR2 hw2 hkn e0 e1 e2 e3 e4 e5 e6 e7
        have BC := bcell H1.out.xb.below
        replace e0 := (BC.1 _ _ hkb).trans e0; replace e1 := (BC.1 _ _ hkb).trans e1; replace e2 := (BC.1 _ _ hkb).trans e2; replace e3 := (BC.1 _ _ hkb).trans e3
        replace e4 := (BC.1 _ _ hkb).trans e4; replace e5 := (BC.1 _ _ hkb).trans e5; replace e6 := (BC.1 _ _ hkb).trans e6; replace e7 := (BC.1 _ _ hkb).trans e7
        rw [hAk] at c6
        have hmi : (m : Int) < (x.kids.length : Int) := by omega
        have hfz := H1.out.xb.frozen
        have f0 := hfz 0; have f1 := hfz 1; have f2 := hfz 2; have f3 := hfz 3; have f4 := hfz 4; have f5 := hfz 5; have f6 := hfz 6; have f7 := hfz 7
        have Hkn := Aside0.mk hkn
        clear hq hR1 BC hkn hy hfz hAk
        go_wp2_with fail
        refine (HI.out).mono ?_
        rintro e w4 ⟨rfl, rfl⟩
        go_upto_region 7 with fail
        obtain ⟨Y, hY⟩ : ∃ Y, Y = wr.setCells w.heap.size 0 (y.cells t2) := ⟨_, rfl⟩
        have hYn := Aside0.mk (H1.out.put (by omega) Hkn.out hY)
        have hY' : Y = ((((((((wr.setCell ⟨w.heap.size, 0, none⟩ (.int .i64 y.kind)).setCell ⟨w.heap.size, 1, none⟩ (.string y.pre)).setCell ⟨w.heap.size, 2, none⟩ (.string y.loc)).setCell ⟨w.heap.size, 3, none⟩ (.string y.uri)).setCell ⟨w.heap.size, 4, none⟩ (.slice t2.Ad y.decls.length t2.cd)).setCell ⟨w.heap.size, 5, none⟩ (.slice t2.Aa y.attrs.length t2.ca)).setCell ⟨w.heap.size, 6, none⟩ (.slice t2.Ak y.kids.length t2.ck)).setCell ⟨w.heap.size, 7, none⟩ (.string y.text)) := hY
        rw [← hY']
        clear hY hY' c0 c1 c2 c3 c4 c5 c6 c7 e0 e1 e2 e3 e4 e5 e6 e7 f0 f1 f2 f3 f4 f5 f6 f7 d
        go_wp2_with fail
        go_roundg (gk - 1)
        case measure => omega
        case rel => exact ⟨j + 1, y, t2, by go_num, by omega, hYn.out, hR2.out, hw2.out⟩
    · have hfin := Aside0.mk (show R = some x by rw [hR.out, List.drop_eq_nil_of_le (by omega)]; rfl)
      obtain ⟨c0, c1, c2, c3, c4, c5, c6, c7⟩ := H1.out.xb.cells
      have HC := Aside0.mk (cloneNode_calls (cnt x) x t wr ok (Nat.le_refl _) hwx.out H1.out.xb.here)
      clear hR
      go_wp2_with fail
      refine (HC.out).mono ?_
      rintro e w4 ⟨⟨s4, rfl, hs4⟩, hb4⟩
      have H4 := H1.out.next hb4
      obtain ⟨y0, y1, y2, y3, y4, y5, y6, y7⟩ := box_cells H4.out
      have fz := fun o => frozen_of_row _ (w.heap.size + 1) o _ _ H4.out
      have f0 := fz 0; have f1 := fz 1; have f2 := fz 2; have f3 := fz 3; have f4 := fz 4; have f5 := fz 5; have f6 := fz 6; have f7 := fz 7
      clear fz c0 c1 c2 c3 c4 c5 c6 c7
      go_wp2
      obtain ⟨Y, hY⟩ : ∃ Y, Y = @w4.setCells (w.heap.size + 1) 0 (@x.cells @s4) := ⟨_, rfl⟩
      have hYo := out_put (y := @x) (t := @s4) @H4.xb.below (Nat.le_succ _) @⟨_, _, _, _, _, _, _, _, H4.out⟩ hY
      have hY' : Y = ((((((((@w4.setCell ⟨w.heap.size + 1, 0, none⟩ @(.int .i64 x.kind)).setCell ⟨w.heap.size + 1, 1, none⟩ @(.string x.pre)).setCell ⟨w.heap.size + 1, 2, none⟩ @(.string x.loc)).setCell ⟨w.heap.size + 1, 3, none⟩ @(.string x.uri)).setCell ⟨w.heap.size + 1, 4, none⟩ @(.slice s4.Ad x.decls.length s4.cd)).setCell ⟨w.heap.size + 1, 5, none⟩ @(.slice s4.Aa x.attrs.length s4.ca)).setCell ⟨w.heap.size + 1, 6, none⟩ @(.slice s4.Ak x.kids.length s4.ck)).setCell ⟨w.heap.size + 1, 7, none⟩ @(.string x.text)) := hY
      rw [← hY']
      have hsz := H1.out.outlt
      have hnY := (hs4.agree (w1 := Y) (fun k hk _ => hYo.2.2 k (by omega))).mono (ok' := fun k => w.heap.size ≤ k) (fun k hk => by omega)
      obtain ⟨p0, p1, p2, p3, p4, p5, p6, p7⟩ := box_cells hYo.2.1
      clear hY hY' y0 y1 y2 y3 y4 y5 y6 y7 f0 f1 f2 f3 f4 f5 f6 f7
      refine bodyPost_ret (v := .tuple #[.agg #[.int .i64 x.kind, .string x.pre, .string x.loc, .string x.uri, .slice s4.Ad x.decls.length s4.cd, .slice s4.Aa x.attrs.length s4.ca, .slice s4.Ak x.kids.length s4.ck, .string x.text], .bool true]) ?hres rfl ⟨⟨s4, by rw [hfin.out]; rfl, by rw [hfin.out]; exact hnY⟩, hYo.1⟩
      case hres => simp [results, Tryz.results40, go_sem, p0, p1, p2, p3, p4, p5, p6, p7]
end Go.Proofs.YtpcklgkpjmmakaaGreatDoor
end
