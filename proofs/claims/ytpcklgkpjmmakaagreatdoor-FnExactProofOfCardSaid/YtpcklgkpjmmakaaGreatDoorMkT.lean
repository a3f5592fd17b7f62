/- Joined: ToT, MkP2, Mtx, MkN. -/
import Derived.Test.YtpcklgkpjmmakaaGreatDoorTo
import Derived.Test.YtpcklgkpjmmakaaGreatDoorSz
import Derived.Test.YtpcklgkpjmmakaaGreatDoorBase
import Derived.Laws.BytesArg
section
/- The laws' copies of trees lie in blocks that nothing has frozen. -/
namespace Go.Proofs.YtpcklgkpjmmakaaGreatDoor
open Go.RowKit
set_option linter.unusedVariables false
set_option linter.unusedSimpArgs false
set_option maxRecDepth 20000
set_option maxHeartbeats 1000000
/-- A row of variables that nothing has frozen. -/
def Thaw (w : World) (k : Nat) : Prop := ∃ c T, w.heap[k]? = some (.cells c T (0, 0))
theorem Thaw.same {w w1 : World} {k : Nat} (h : w1.heap[k]? = w.heap[k]?) (t : Thaw w k) : Thaw w1 k := by
  obtain ⟨c, T, hc⟩ := t
  exact ⟨c, T, h.trans hc⟩
theorem Thaw.frozen {w : World} {k : Nat} (t : Thaw w k) (o : Nat) : w.frozen? ⟨k, o, none⟩ = false := by
  obtain ⟨c, T, hc⟩ := t
  exact frozen_of_row w k o c T hc
def NewT (b : Nat) (w : World) (k : Nat) : Prop := b ≤ k ∧ Thaw w k
theorem thaw_own {w : World} {base size n : Nat} {e : TypeId} {g c : Nat} {m : Nat} {cells : List Value} (h : w.ownsRow base e size (.slice (some ⟨g, 0, none⟩) m c) n cells) : Thaw w g := by
  rcases h.2 with ⟨h, _⟩ | ⟨b, cap, cur, h, _, hh, _⟩
  · cases h
  · injection h with h _ _
    injection h with h
    injection h with h1 _ _
    subst h1
    exact ⟨_, _, hh⟩
theorem NewT.same {b : Nat} {w w1 : World} (hs : ∀ k, b ≤ k → k < w.heap.size → w1.heap[k]? = w.heap[k]?) : ∀ k, NewT b w k ∧ k < w.heap.size → NewT b w1 k :=
  fun k hk => ⟨hk.1.1, hk.1.2.same (hs k hk.1.1 hk.2)⟩
theorem rowT_same {α : Type} {d : Kd α} {w w1 : World} {b : Nat} {A : Option Addr} {xs : List α} (h : Row d w (NewT b w) A xs) (hs : ∀ k, b ≤ k → k < w.heap.size → w1.heap[k]? = w.heap[k]?) : Row d w1 (NewT b w1) A xs :=
  (h.bound.agree (w1 := w1) (fun k hk hlt => hs k hk.1.1 hlt)).mono (NewT.same hs)
theorem rowT_below {α : Type} {d : Kd α} {w w1 : World} {b : Nat} {A : Option Addr} {xs : List α} (h : Row d w (NewT b w) A xs) (hb : Below w.heap.size w w1) : Row d w1 (NewT b w1) A xs := rowT_same h (fun k _ hk => hb.block k hk)
theorem rowT_set {α : Type} {d : Kd α} {w : World} {b : Nat} {A : Option Addr} {xs : List α} {p : Addr} {u : Value} (h : Row d w (NewT b w) A xs) (hp : p.block < b) : Row d (w.setCell p u) (NewT b (w.setCell p u)) A xs :=
  rowT_same h (fun k hk _ => Below.heap_setCell _ _ _ _ (by omega))
theorem NodeIs.sameT {w w1 : World} {b : Nat} {n : Nd} {s : Sh} (h : NodeIs w (NewT b w) n s) (hs : ∀ k, b ≤ k → k < w.heap.size → w1.heap[k]? = w.heap[k]?) : NodeIs w1 (NewT b w1) n s :=
  (h.bound.agree (w1 := w1) (fun k hk hlt => hs k hk.1.1 hlt)).mono (NewT.same hs)
theorem NodeIs.belowT {w w1 : World} {b : Nat} {n : Nd} {s : Sh} (h : NodeIs w (NewT b w) n s) (hb : Below w.heap.size w w1) : NodeIs w1 (NewT b w1) n s := h.sameT (fun k _ hk => hb.block k hk)
theorem FillN.mono' {α : Type} {d : Kd α} {w : World} {ok ok' : Nat → Prop} {xs : List α} {j : Nat} {cells : List Value} (h : FillN d w ok xs j cells) (hs : ∀ k, ok k → ok' k) : FillN d w ok' xs j cells := ⟨h.1, fun i hi hj => d.mono hs (h.2 i hi hj)⟩
theorem FillN.bound' {α : Type} {d : Kd α} {w : World} {ok : Nat → Prop} {xs : List α} {j : Nat} {cells : List Value} (h : FillN d w ok xs j cells) : FillN d w (fun k => ok k ∧ k < w.heap.size) xs j cells := ⟨h.1, fun i hi hj => d.bound (h.2 i hi hj)⟩
theorem FillN.sameT {α : Type} {d : Kd α} {w w1 : World} {b : Nat} {xs : List α} {j : Nat} {cells : List Value} (h : FillN d w (NewT b w) xs j cells) (hs : ∀ k, b ≤ k → k < w.heap.size → w1.heap[k]? = w.heap[k]?) : FillN d w1 (NewT b w1) xs j cells :=
  (h.bound'.agree (w1 := w1) (fun k hk hlt => hs k hk.1.1 hlt)).mono' (NewT.same hs)
theorem kT_same {α : Type} {d : Kd α} {w w1 : World} {b : Nat} {x : α} {cs : List Value} (h : d.K w (NewT b w) x cs) (hs : ∀ k, b ≤ k → k < w.heap.size → w1.heap[k]? = w.heap[k]?) : d.K w1 (NewT b w1) x cs :=
  d.mono (NewT.same hs) (d.agree (w1 := w1) (fun k hk hlt => hs k hk.1.1 hlt) (d.bound h))
theorem newT_up {b c : Nat} {w : World} (h : b ≤ c) : ∀ k, NewT c w k → NewT b w k := fun k hk => ⟨Nat.le_trans h hk.1, hk.2⟩
theorem toDeclST_calls {ok : Nat → Prop} (A : Option Addr) (xs : List Dcl) (c : Nat) (w : World) (hr : Row Kd.dcl w ok A xs) (hn : xs.length ≤ 1048576) :
    Calls Tryz.prog 66 #[.slice A xs.length c] w fun e w' => (∃ A' c', e = .returned (.slice A' xs.length c') ∧ xs.length ≤ c' ∧ Row Kd.dcl w' (NewT w.heap.size w') A' xs) ∧ Below w.heap.size w w' := by
  obtain ⟨i, hi, hz0, hz1, hz2⟩ := info_parts Tryz.info_Decl
  go_enter Tryz.func66, Tryz.ntmps66
  go_wp2_with (at_make; refine wpList_make_full _ rfl _ _ 24 rfl w.heap.size 122 i (.agg #[.string ⟨#[]⟩, .string ⟨#[]⟩]) 2 Tryz.underlying24 hi hz0 hz1 _ _ _ _ xs.length rfl rfl rfl rfl (by rw [hz2]; omega) (by unfold maxLen; omega) (Nat.le_refl _) ?_; intro w1 hown hgrow)
  go_loopg [4] xs.length (fun k i wr => ∃ (j : Nat) (cells : List Value), i = .int .i64 j ∧ j + k = xs.length ∧ wr.ownsRow w.heap.size 122 2 (.slice (some ⟨w.heap.size, 0, none⟩) xs.length xs.length) xs.length cells ∧ Aside (FillN Kd.dcl wr (fun _ => False) xs j cells) ∧ Below w.heap.size w wr)
  case atStart => exact ⟨0, _, rfl, by omega, hown, FillN.start _ _ _ hown.1, (Below.refl _ _).grown hgrow (Nat.le_refl _) (by simp)⟩
  case round =>
    obtain ⟨j, cells, rfl, hk, hown1, hf, hb⟩ := hrel
    clear hown hgrow
    by_cases hlt : j < xs.length
    · obtain ⟨b, o, rfl, hbl, d0, d1⟩ := dcl_at (hr.below hb) j hlt
      clear hr
      go_wp2_with fail
      refine (toDecl_calls (xs[j]'hlt) wr).mono ?_
      rintro e w2 ⟨rfl, hb2⟩
      have hown2 := own_below hown1 hb2
      have hst := own_stored [.string (xs[j]'hlt).pre, .string (xs[j]'hlt).uri] (j * 2) _ _ hown2
      have hf2 := ((hf.out.agree (w1 := w2) (fun k _ hlt => hb2.block k hlt)).agree (w1 := w2.setCells w.heap.size (j * 2) [.string (xs[j]'hlt).pre, .string (xs[j]'hlt).uri]) (fun k hk _ => hk.elim)).step hlt (vs := [.string (xs[j]'hlt).pre, .string (xs[j]'hlt).uri]) rfl
      have hb3 := setCells_below w.heap.size [.string (xs[j]'hlt).pre, .string (xs[j]'hlt).uri] (j * 2) w w2 (below_then hb hb2) (Nat.le_refl _)
      have hown1 := hown2
      have q0 := fill_cellN hown1 (i := j * 2) (by omega)
      obtain ⟨⟨u0, hu0⟩, hfz0⟩ := q0
      have q1 := fill_cellN hown1 (i := j * 2 + 1) (by omega)
      obtain ⟨⟨u1, hu1⟩, hfz1⟩ := q1
      have HS := Aside0.mk (And.intro hst (And.intro hf2 hb3))
      clear hst hf2 hb3 hown1 hown2 hf
      go_wp2
      go_roundg (gk - 1)
      case measure => omega
      case rel => exact ⟨j + 1, _, by go_num, by omega, HS.out.1, HS.out.2.1, HS.out.2.2⟩
    · have hf2 := hf.out.done (by omega)
      obtain ⟨_, _, he, hl, HO⟩ := (show Own Kd.dcl 122 wr w.heap.size (fun _ => False) (.slice (some ⟨w.heap.size, 0, none⟩) xs.length xs.length) xs from ⟨cells, hown1, hf2⟩).row (ok' := NewT w.heap.size wr) (fun k hk => hk.elim) (fun k hk => by cases hk; exact ⟨Nat.le_refl _, thaw_own hown1⟩)
      injection he with e1 _ e2
      subst e1 e2
      clear hf hf2 hown1
      go_wp2
      go_ret
      exact ⟨⟨_, _, rfl, Nat.le_refl _, HO⟩, hb⟩
theorem toAttrST_calls {ok : Nat → Prop} (A : Option Addr) (xs : List Atr) (c : Nat) (w : World) (hr : Row Kd.atr w ok A xs) (hn : xs.length ≤ 1048576) :
    Calls Tryz.prog 67 #[.slice A xs.length c] w fun e w' => (∃ A' c', e = .returned (.slice A' xs.length c') ∧ xs.length ≤ c' ∧ Row Kd.atr w' (NewT w.heap.size w') A' xs) ∧ Below w.heap.size w w' := by
  obtain ⟨i, hi, hz0, hz1, hz2⟩ := info_parts Tryz.info_Attr
  go_enter Tryz.func67, Tryz.ntmps67
  go_wp2_with (at_make; refine wpList_make_full _ rfl _ _ 25 rfl w.heap.size 114 i (.agg #[.string ⟨#[]⟩, .string ⟨#[]⟩, .string ⟨#[]⟩, .string ⟨#[]⟩]) 4 Tryz.underlying25 hi hz0 hz1 _ _ _ _ xs.length rfl rfl rfl rfl (by rw [hz2]; omega) (by unfold maxLen; omega) (Nat.le_refl _) ?_; intro w1 hown hgrow)
  go_loopg [4] xs.length (fun k i wr => ∃ (j : Nat) (cells : List Value), i = .int .i64 j ∧ j + k = xs.length ∧ wr.ownsRow w.heap.size 114 4 (.slice (some ⟨w.heap.size, 0, none⟩) xs.length xs.length) xs.length cells ∧ Aside (FillN Kd.atr wr (fun _ => False) xs j cells) ∧ Below w.heap.size w wr)
  case atStart => exact ⟨0, _, rfl, by omega, hown, FillN.start _ _ _ hown.1, (Below.refl _ _).grown hgrow (Nat.le_refl _) (by simp)⟩
  case round =>
    obtain ⟨j, cells, rfl, hk, hown1, hf, hb⟩ := hrel
    clear hown hgrow
    by_cases hlt : j < xs.length
    · obtain ⟨b, o, rfl, hbl, d0, d1, d2, d3⟩ := atr_at (hr.below hb) j hlt
      clear hr
      go_wp2_with fail
      refine (toAttr_calls (xs[j]'hlt) wr).mono ?_
      rintro e w2 ⟨rfl, hb2⟩
      have hown2 := own_below hown1 hb2
      have hst := own_stored [.string (xs[j]'hlt).pre, .string (xs[j]'hlt).loc, .string (xs[j]'hlt).uri, .string (xs[j]'hlt).val] (j * 4) _ _ hown2
      have hf2 := ((hf.out.agree (w1 := w2) (fun k _ hlt => hb2.block k hlt)).agree (w1 := w2.setCells w.heap.size (j * 4) [.string (xs[j]'hlt).pre, .string (xs[j]'hlt).loc, .string (xs[j]'hlt).uri, .string (xs[j]'hlt).val]) (fun k hk _ => hk.elim)).step hlt (vs := [.string (xs[j]'hlt).pre, .string (xs[j]'hlt).loc, .string (xs[j]'hlt).uri, .string (xs[j]'hlt).val]) rfl
      have hb3 := setCells_below w.heap.size [.string (xs[j]'hlt).pre, .string (xs[j]'hlt).loc, .string (xs[j]'hlt).uri, .string (xs[j]'hlt).val] (j * 4) w w2 (below_then hb hb2) (Nat.le_refl _)
      have hown1 := hown2
      have q0 := fill_cellN hown1 (i := j * 4) (by omega)
      obtain ⟨⟨u0, hu0⟩, hfz0⟩ := q0
      have q1 := fill_cellN hown1 (i := j * 4 + 1) (by omega)
      obtain ⟨⟨u1, hu1⟩, hfz1⟩ := q1
      have q2 := fill_cellN hown1 (i := j * 4 + 2) (by omega)
      obtain ⟨⟨u2, hu2⟩, hfz2⟩ := q2
      have q3 := fill_cellN hown1 (i := j * 4 + 3) (by omega)
      obtain ⟨⟨u3, hu3⟩, hfz3⟩ := q3
      have HS := Aside0.mk (And.intro hst (And.intro hf2 hb3))
      clear hst hf2 hb3 hown1 hown2 hf
      go_wp2
      go_roundg (gk - 1)
      case measure => omega
      case rel => exact ⟨j + 1, _, by go_num, by omega, HS.out.1, HS.out.2.1, HS.out.2.2⟩
    · have hf2 := hf.out.done (by omega)
      obtain ⟨_, _, he, hl, HO⟩ := (show Own Kd.atr 114 wr w.heap.size (fun _ => False) (.slice (some ⟨w.heap.size, 0, none⟩) xs.length xs.length) xs from ⟨cells, hown1, hf2⟩).row (ok' := NewT w.heap.size wr) (fun k hk => hk.elim) (fun k hk => by cases hk; exact ⟨Nat.le_refl _, thaw_own hown1⟩)
      injection he with e1 _ e2
      subst e1 e2
      clear hf hf2 hown1
      go_wp2
      go_ret
      exact ⟨⟨_, _, rfl, Nat.le_refl _, HO⟩, hb⟩
/-- What toNode does. -/
def ToNT (n : Nd) (W : World) (e : Ending) (w' : World) : Prop := (∃ s', e = .returned (.agg #[.int .i64 n.kind, .string n.pre, .string n.loc, .string n.uri, .slice s'.Ad n.decls.length s'.cd, .slice s'.Aa n.attrs.length s'.ca, .slice s'.Ak n.kids.length s'.ck, .string n.text]) ∧ NodeIs w' (NewT W.heap.size w') n s') ∧ Below W.heap.size W w'
theorem toNodeST_calls {ok : Nat → Prop} (A : Option Addr) (xs : List Nd) (c : Nat) (w : World) (hr : Row Kd.node w ok A xs) (hn : xs.length ≤ 1048576)
    (ih : ∀ n ∈ xs, ∀ (s : Sh) (W : World), NodeIs W ok n s → Calls Tryz.prog 27 #[.agg #[.int .i64 n.kind, .string n.pre, .string n.loc, .string n.uri, .slice s.Ad n.decls.length s.cd, .slice s.Aa n.attrs.length s.ca, .slice s.Ak n.kids.length s.ck, .string n.text]] W (ToNT n W)) :
    Calls Tryz.prog 68 #[.slice A xs.length c] w fun e w' => (∃ A' c', e = .returned (.slice A' xs.length c') ∧ xs.length ≤ c' ∧ Row Kd.node w' (NewT w.heap.size w') A' xs) ∧ Below w.heap.size w w' := by
  obtain ⟨i, hi, hz0, hz1, hz2⟩ := info_parts Tryz.info_Node
  have ih := Aside0.mk ih
  go_enter Tryz.func68, Tryz.ntmps68
  go_wp2_with (at_make; refine wpList_make_full _ rfl _ _ 26 rfl w.heap.size 28 i (.agg #[.int .i64 0, .string ⟨#[]⟩, .string ⟨#[]⟩, .string ⟨#[]⟩, .slice none 0 0, .slice none 0 0, .slice none 0 0, .string ⟨#[]⟩]) 8 Tryz.underlying26 hi hz0 hz1 _ _ _ _ xs.length rfl rfl rfl rfl (by rw [hz2]; omega) (by unfold maxLen; omega) (Nat.le_refl _) ?_; intro w1 hown hgrow)
  go_loopg [4] xs.length (fun k i wr => ∃ (j : Nat) (cells : List Value), i = .int .i64 j ∧ j + k = xs.length ∧ wr.ownsRow w.heap.size 28 8 (.slice (some ⟨w.heap.size, 0, none⟩) xs.length xs.length) xs.length cells ∧ Aside (FillN Kd.node wr (NewT (w.heap.size + 1) wr) xs j cells) ∧ Below w.heap.size w wr)
  case atStart => exact ⟨0, _, rfl, by omega, hown, FillN.start _ _ _ hown.1, (Below.refl _ _).grown hgrow (Nat.le_refl _) (by simp)⟩
  case round =>
    obtain ⟨j, cells, rfl, hk, hown1, hf, hb⟩ := hrel
    clear hown hgrow
    by_cases hlt : j < xs.length
    · obtain ⟨b, o, s', rfl, hbl, hs', d0, d1, d2, d3, d4, d5, d6, d7⟩ := node_at (hr.below hb) j hlt
      clear hr
      have hgs := (hown1.lt _ rfl).2
      go_wp2_with fail
      refine (ih.out _ (List.getElem_mem hlt) s' wr hs').mono ?_
      rintro e w2 ⟨⟨s2, rfl, hs2⟩, hb2⟩
      have hown2 := own_below hown1 hb2
      have hst := own_stored [.int .i64 (xs[j]'hlt).kind, .string (xs[j]'hlt).pre, .string (xs[j]'hlt).loc, .string (xs[j]'hlt).uri, .slice s2.Ad (xs[j]'hlt).decls.length s2.cd, .slice s2.Aa (xs[j]'hlt).attrs.length s2.ca, .slice s2.Ak (xs[j]'hlt).kids.length s2.ck, .string (xs[j]'hlt).text] (j * 8) _ _ hown2
      have hK : Kd.node.K w2 (NewT (w.heap.size + 1) w2) (xs[j]'hlt) [.int .i64 (xs[j]'hlt).kind, .string (xs[j]'hlt).pre, .string (xs[j]'hlt).loc, .string (xs[j]'hlt).uri, .slice s2.Ad (xs[j]'hlt).decls.length s2.cd, .slice s2.Aa (xs[j]'hlt).attrs.length s2.ca, .slice s2.Ak (xs[j]'hlt).kids.length s2.ck, .string (xs[j]'hlt).text] := (hs2.mono (ok' := NewT (w.heap.size + 1) w2) (fun k hk => ⟨Nat.lt_of_lt_of_le hgs hk.1, hk.2⟩)).k
      have hsm : ∀ k, w.heap.size + 1 ≤ k → k < w2.heap.size → (w2.setCells w.heap.size (j * 8) [.int .i64 (xs[j]'hlt).kind, .string (xs[j]'hlt).pre, .string (xs[j]'hlt).loc, .string (xs[j]'hlt).uri, .slice s2.Ad (xs[j]'hlt).decls.length s2.cd, .slice s2.Aa (xs[j]'hlt).attrs.length s2.ca, .slice s2.Ak (xs[j]'hlt).kids.length s2.ck, .string (xs[j]'hlt).text]).heap[k]? = w2.heap[k]? := fun k hk _ => setCells_same _ _ _ _ _ (by omega)
      have hf2 := ((hf.out.sameT (w1 := w2) (fun k _ hlt => hb2.block k hlt)).sameT hsm).step hlt (vs := [.int .i64 (xs[j]'hlt).kind, .string (xs[j]'hlt).pre, .string (xs[j]'hlt).loc, .string (xs[j]'hlt).uri, .slice s2.Ad (xs[j]'hlt).decls.length s2.cd, .slice s2.Aa (xs[j]'hlt).attrs.length s2.ca, .slice s2.Ak (xs[j]'hlt).kids.length s2.ck, .string (xs[j]'hlt).text]) (kT_same hK hsm)
      have hb3 := setCells_below w.heap.size [.int .i64 (xs[j]'hlt).kind, .string (xs[j]'hlt).pre, .string (xs[j]'hlt).loc, .string (xs[j]'hlt).uri, .slice s2.Ad (xs[j]'hlt).decls.length s2.cd, .slice s2.Aa (xs[j]'hlt).attrs.length s2.ca, .slice s2.Ak (xs[j]'hlt).kids.length s2.ck, .string (xs[j]'hlt).text] (j * 8) w w2 (below_then hb hb2) (Nat.le_refl _)
      have hown1 := hown2
      have q0 := fill_cellN hown1 (i := j * 8) (by omega)
      obtain ⟨⟨u0, hu0⟩, hfz0⟩ := q0
      have q1 := fill_cellN hown1 (i := j * 8 + 1) (by omega)
      obtain ⟨⟨u1, hu1⟩, hfz1⟩ := q1
      have q2 := fill_cellN hown1 (i := j * 8 + 2) (by omega)
      obtain ⟨⟨u2, hu2⟩, hfz2⟩ := q2
      have q3 := fill_cellN hown1 (i := j * 8 + 3) (by omega)
      obtain ⟨⟨u3, hu3⟩, hfz3⟩ := q3
      have q4 := fill_cellN hown1 (i := j * 8 + 4) (by omega)
      obtain ⟨⟨u4, hu4⟩, hfz4⟩ := q4
      have q5 := fill_cellN hown1 (i := j * 8 + 5) (by omega)
      obtain ⟨⟨u5, hu5⟩, hfz5⟩ := q5
      have q6 := fill_cellN hown1 (i := j * 8 + 6) (by omega)
      obtain ⟨⟨u6, hu6⟩, hfz6⟩ := q6
      have q7 := fill_cellN hown1 (i := j * 8 + 7) (by omega)
      obtain ⟨⟨u7, hu7⟩, hfz7⟩ := q7
      have HS := Aside0.mk (And.intro hst (And.intro hf2 hb3))
      clear hst hf2 hb3 hown1 hown2 hf hs2 hs' hK hsm d0 d1 d2 d3 d4 d5 d6 d7
      go_wp2
      go_roundg (gk - 1)
      case measure => omega
      case rel => exact ⟨j + 1, _, by go_num, by omega, HS.out.1, HS.out.2.1, HS.out.2.2⟩
    · have hf2 := hf.out.done (by omega)
      obtain ⟨_, _, he, hl, HO⟩ := (show Own Kd.node 28 wr w.heap.size (NewT (w.heap.size + 1) wr) (.slice (some ⟨w.heap.size, 0, none⟩) xs.length xs.length) xs from ⟨cells, hown1, hf2⟩).row (ok' := NewT w.heap.size wr) (newT_up (Nat.le_succ _)) (fun k hk => by cases hk; exact ⟨Nat.le_refl _, thaw_own hown1⟩)
      injection he with e1 _ e2
      subst e1 e2
      clear hf hf2 hown1
      go_wp2
      go_ret
      exact ⟨⟨_, _, rfl, Nat.le_refl _, HO⟩, hb⟩
theorem toNodeT_calls : ∀ (N : Nat) (n : Nd) (s : Sh) (w : World) (ok : Nat → Prop), cnt n ≤ N → wt n ≤ 1048576 → NodeIs w ok n s →
    Calls Tryz.prog 27 #[.agg #[.int .i64 n.kind, .string n.pre, .string n.loc, .string n.uri, .slice s.Ad n.decls.length s.cd, .slice s.Aa n.attrs.length s.ca, .slice s.Ak n.kids.length s.ck, .string n.text]] w (ToNT n w) := by
  intro N
  induction N with
  | zero => intro n s w ok h0; rw [cnt_eq] at h0; omega
  | succ N ih =>
  rintro n ⟨Ad, cd, Aa, ca, Ak, ck⟩ w ok hN hwt hn
  have hw := wt_eq n
  rw [wtL_eq] at hw
  have rowd : Row Kd.dcl w ok Ad n.decls := hn.decls
  have rowa : Row Kd.atr w ok Aa n.attrs := hn.attrs
  have rowk : Row Kd.node w ok Ak n.kids := hn.kids
  have IH := Aside0.mk (show ∀ k ∈ n.kids, ∀ (s : Sh) (W : World), NodeIs W ok k s → Calls Tryz.prog 27 #[.agg #[.int .i64 k.kind, .string k.pre, .string k.loc, .string k.uri, .slice s.Ad k.decls.length s.cd, .slice s.Aa k.attrs.length s.ca, .slice s.Ak k.kids.length s.ck, .string k.text]] W (ToNT k W) from fun k hk s W a => by
    have := sumOf_mem wt _ _ hk
    obtain ⟨i, hi, rfl⟩ := List.getElem_of_mem hk
    exact ih _ s W ok (by have := cnt_kid hi; omega) (by omega) a)
  have l1 : n.decls.length ≤ 1048576 := by omega
  have l2 : n.attrs.length ≤ 1048576 := by omega
  have l3 : n.kids.length ≤ 1048576 := by omega
  clear hn ih hN hwt hw
  simp only
  go_enter Tryz.func27, Tryz.ntmps27
  go_upto_region 6 with fail
  obtain ⟨W0, hW0⟩ : ∃ W0, W0 = ((w.alloc (.cells #[.int .i64 n.kind, .string n.pre, .string n.loc, .string n.uri, .slice Ad n.decls.length cd, .slice Aa n.attrs.length ca, .slice Ak n.kids.length ck, .string n.text] 57)).alloc (.cells #[.int .i64 0, .string ⟨#[]⟩, .string ⟨#[]⟩, .string ⟨#[]⟩, .slice none 0 0, .slice none 0 0, .slice none 0 0, .string ⟨#[]⟩] 28)).alloc (.cells #[.int .i64 n.kind, .string n.pre, .string n.loc, .string n.uri, .slice none 0 0, .slice none 0 0, .slice none 0 0, .string ⟨#[]⟩] 28) := ⟨_, rfl⟩
  have T0 : Th w W0 57 28 #[.int .i64 n.kind, .string n.pre, .string n.loc, .string n.uri, .slice Ad n.decls.length cd, .slice Aa n.attrs.length ca, .slice Ak n.kids.length ck, .string n.text] #[.int .i64 n.kind, .string n.pre, .string n.loc, .string n.uri, .slice none 0 0, .slice none 0 0, .slice none 0 0, .string ⟨#[]⟩] := by rw [hW0]; exact Th.start _ _ _ _ _ _ _ _ _ _ _ _ _
  rw [← hW0]
  clear hW0
  -- decls
  obtain ⟨_, _, _, _, a4, a5, a6, a7⟩ := box_cells T0.g0
  go_wp2_with fail
  refine (toDeclST_calls Ad n.decls cd W0 (rowd.below T0.below) l1).mono ?_
  rintro e w1 ⟨⟨A1, c1, rfl, q1, r1⟩, hb1⟩
  have U1 := T0.next hb1
  clear a4 a5 a6 a7
  have f1 := frozen_of_row w1 _ 4 _ _ U1.g2
  have z1 := cell_of_row w1 _ 4 _ _ _ U1.g2
  simp only [List.getElem?_toArray, List.getElem?_cons_zero, List.getElem?_cons_succ] at z1
  go_upto_region 7 with fail
  obtain ⟨W1, hW1⟩ : ∃ W1, W1 = w1.setCell ⟨w.heap.size + 1 + 1, 4, none⟩ (.slice A1 n.decls.length c1) := ⟨_, rfl⟩
  have T1 : Th w W1 57 28 #[.int .i64 n.kind, .string n.pre, .string n.loc, .string n.uri, .slice Ad n.decls.length cd, .slice Aa n.attrs.length ca, .slice Ak n.kids.length ck, .string n.text] #[.int .i64 n.kind, .string n.pre, .string n.loc, .string n.uri, .slice A1 n.decls.length c1, .slice none 0 0, .slice none 0 0, .string ⟨#[]⟩] := by rw [hW1]; exact U1.set 4 _
  have R1 : Row Kd.dcl W1 (NewT (w.heap.size + 3) W1) A1 n.decls := by
    rw [hW1]
    exact rowT_set (r1.mono (newT_up (by have := T0.size; omega))) (by show w.heap.size + 1 + 1 < _; omega)
  rw [← hW1]
  clear hW1 f1 z1 U1 r1
  -- attrs
  obtain ⟨_, _, _, _, a4, a5, a6, a7⟩ := box_cells T1.g0
  go_wp2_with fail
  refine (toAttrST_calls Aa n.attrs ca W1 (rowa.below T1.below) l2).mono ?_
  rintro e w2 ⟨⟨A2, c2, rfl, q2, r2⟩, hb2⟩
  have U2 := T1.next hb2
  clear a4 a5 a6 a7
  have f2 := frozen_of_row w2 _ 5 _ _ U2.g2
  have z2 := cell_of_row w2 _ 5 _ _ _ U2.g2
  simp only [List.getElem?_toArray, List.getElem?_cons_zero, List.getElem?_cons_succ] at z2
  go_upto_region 8 with fail
  obtain ⟨W2, hW2⟩ : ∃ W2, W2 = w2.setCell ⟨w.heap.size + 1 + 1, 5, none⟩ (.slice A2 n.attrs.length c2) := ⟨_, rfl⟩
  have T2 : Th w W2 57 28 #[.int .i64 n.kind, .string n.pre, .string n.loc, .string n.uri, .slice Ad n.decls.length cd, .slice Aa n.attrs.length ca, .slice Ak n.kids.length ck, .string n.text] #[.int .i64 n.kind, .string n.pre, .string n.loc, .string n.uri, .slice A1 n.decls.length c1, .slice A2 n.attrs.length c2, .slice none 0 0, .string ⟨#[]⟩] := by rw [hW2]; exact U2.set 5 _
  have R2 : Row Kd.atr W2 (NewT (w.heap.size + 3) W2) A2 n.attrs := by
    rw [hW2]
    exact rowT_set (r2.mono (newT_up (by have := T1.size; omega))) (by show w.heap.size + 1 + 1 < _; omega)
  have R1 : Row Kd.dcl W2 (NewT (w.heap.size + 3) W2) A1 n.decls := by
    rw [hW2]
    exact rowT_set (rowT_below R1 hb2) (by show w.heap.size + 1 + 1 < _; omega)
  rw [← hW2]
  clear hW2 f2 z2 U2 r2
  -- kids
  obtain ⟨_, _, _, _, a4, a5, a6, a7⟩ := box_cells T2.g0
  go_wp2_with fail
  refine (toNodeST_calls Ak n.kids ck W2 (rowk.below T2.below) l3 IH.out).mono ?_
  rintro e w3 ⟨⟨A3, c3, rfl, q3, r3⟩, hb3⟩
  have U3 := T2.next hb3
  clear a4 a5 a6 a7
  have f3 := frozen_of_row w3 _ 6 _ _ U3.g2
  have z3 := cell_of_row w3 _ 6 _ _ _ U3.g2
  simp only [List.getElem?_toArray, List.getElem?_cons_zero, List.getElem?_cons_succ] at z3
  go_upto_region 9 with fail
  obtain ⟨W3, hW3⟩ : ∃ W3, W3 = w3.setCell ⟨w.heap.size + 1 + 1, 6, none⟩ (.slice A3 n.kids.length c3) := ⟨_, rfl⟩
  have T3 : Th w W3 57 28 #[.int .i64 n.kind, .string n.pre, .string n.loc, .string n.uri, .slice Ad n.decls.length cd, .slice Aa n.attrs.length ca, .slice Ak n.kids.length ck, .string n.text] #[.int .i64 n.kind, .string n.pre, .string n.loc, .string n.uri, .slice A1 n.decls.length c1, .slice A2 n.attrs.length c2, .slice A3 n.kids.length c3, .string ⟨#[]⟩] := by rw [hW3]; exact U3.set 6 _
  have R3 : Row Kd.node W3 (NewT (w.heap.size + 3) W3) A3 n.kids := by
    rw [hW3]
    exact rowT_set (r3.mono (newT_up (by have := T2.size; omega))) (by show w.heap.size + 1 + 1 < _; omega)
  have R1 : Row Kd.dcl W3 (NewT (w.heap.size + 3) W3) A1 n.decls := by
    rw [hW3]
    exact rowT_set (rowT_below R1 hb3) (by show w.heap.size + 1 + 1 < _; omega)
  have R2 : Row Kd.atr W3 (NewT (w.heap.size + 3) W3) A2 n.attrs := by
    rw [hW3]
    exact rowT_set (rowT_below R2 hb3) (by show w.heap.size + 1 + 1 < _; omega)
  rw [← hW3]
  clear hW3 f3 z3 U3 r3
  obtain ⟨_, _, _, _, a4, a5, a6, a7⟩ := box_cells T3.g0
  obtain ⟨b0, b1, b2, b3, b4, b5, b6, b7⟩ := box_cells T3.g2
  obtain ⟨x0, x1, x2, x3, x4, x5, x6, x7, hx⟩ := T3.g1
  obtain ⟨y0, y1, y2, y3, y4, y5, y6, y7⟩ := box_cells hx
  have f7 := frozen_of_row W3 _ 7 _ _ T3.g2
  have g0 := frozen_of_row W3 _ 0 _ _ hx
  have g1 := frozen_of_row W3 _ 1 _ _ hx
  have g2 := frozen_of_row W3 _ 2 _ _ hx
  have g3 := frozen_of_row W3 _ 3 _ _ hx
  have g4 := frozen_of_row W3 _ 4 _ _ hx
  have g5 := frozen_of_row W3 _ 5 _ _ hx
  have g6 := frozen_of_row W3 _ 6 _ _ hx
  have g7 := frozen_of_row W3 _ 7 _ _ hx
  have HX := Aside0.mk hx
  clear hx
  go_wp2
  obtain ⟨X, hX⟩ : ∃ X, X = W3.setCell ⟨w.heap.size + 1 + 1, 7, none⟩ (.string n.text) := ⟨_, rfl⟩
  obtain ⟨Wf, hWf⟩ : ∃ Wf, Wf = X.setCells (w.heap.size + 1) 0 [.int .i64 n.kind, .string n.pre, .string n.loc, .string n.uri, .slice A1 n.decls.length c1, .slice A2 n.attrs.length c2, .slice A3 n.kids.length c3, .string n.text] := ⟨_, rfl⟩
  have hxX : X.heap[w.heap.size + 1]? = some (.cells #[x0, x1, x2, x3, x4, x5, x6, x7] 28 (0, 0)) := by rw [hX]; exact (heap_setCell_other W3 _ _ _ (by show w.heap.size + 1 ≠ w.heap.size + 1 + 1; omega)).trans HX.out
  have hf7 : Wf.heap[w.heap.size + 1]? = some (.cells #[.int .i64 n.kind, .string n.pre, .string n.loc, .string n.uri, .slice A1 n.decls.length c1, .slice A2 n.attrs.length c2, .slice A3 n.kids.length c3, .string n.text] 28 (0, 0)) := by
    rw [hWf]; exact set8 hxX _ _ _ _ _ _ _ _
  have hs : ∀ k, w.heap.size + 3 ≤ k → k < W3.heap.size → Wf.heap[k]? = W3.heap[k]? := fun k hk _ => by
    rw [hWf, setCells_same _ _ _ _ _ (by omega), hX]
    exact heap_setCell_other W3 _ _ _ (by show k ≠ w.heap.size + 1 + 1; omega)
  have D1 := (rowT_same (w1 := Wf) R1 hs).mono (ok' := NewT w.heap.size Wf) (newT_up (by omega))
  have D2 := (rowT_same (w1 := Wf) R2 hs).mono (ok' := NewT w.heap.size Wf) (newT_up (by omega))
  have D3 := (rowT_same (w1 := Wf) R3 hs).mono (ok' := NewT w.heap.size Wf) (newT_up (by omega))
  have HBf : Below w.heap.size w Wf := by
    rw [hWf]
    refine setCells_below _ _ _ _ _ ?_ (by omega)
    rw [hX]
    exact below_setNew T3.below (by omega)
  rw [← hX]
  have hWf' : Wf = ((((((((X.setCell ⟨w.heap.size + 1, 0, none⟩ (.int .i64 n.kind)).setCell ⟨w.heap.size + 1, 1, none⟩ (.string n.pre)).setCell ⟨w.heap.size + 1, 2, none⟩ (.string n.loc)).setCell ⟨w.heap.size + 1, 3, none⟩ (.string n.uri)).setCell ⟨w.heap.size + 1, 4, none⟩ (.slice A1 n.decls.length c1)).setCell ⟨w.heap.size + 1, 5, none⟩ (.slice A2 n.attrs.length c2)).setCell ⟨w.heap.size + 1, 6, none⟩ (.slice A3 n.kids.length c3)).setCell ⟨w.heap.size + 1, 7, none⟩ (.string n.text)) := hWf
  rw [← hWf']
  obtain ⟨p0, p1, p2, p3, p4, p5, p6, p7⟩ := box_cells hf7
  clear hf7 hWf hWf' hX hxX hs y0 y1 y2 y3 y4 y5 y6 y7 b0 b1 b2 b3 b4 b5 b6 b7 a4 a5 a6 a7
  refine bodyPost_ret (v := .agg #[.int .i64 n.kind, .string n.pre, .string n.loc, .string n.uri, .slice A1 n.decls.length c1, .slice A2 n.attrs.length c2, .slice A3 n.kids.length c3, .string n.text]) ?hres rfl ⟨⟨⟨A1, c1, A2, c2, A3, c3⟩, rfl, ⟨q1, D1, q2, D2, q3, D3⟩⟩, HBf⟩
  case hres => simp [results, Tryz.results27, go_sem, p0, p1, p2, p3, p4, p5, p6, p7]
end Go.Proofs.YtpcklgkpjmmakaaGreatDoor
end
section
/- The laws' marks of trees: cells that hold no slice are written, all slices stay. -/
namespace Go.Proofs.YtpcklgkpjmmakaaGreatDoor
open Go.RowKit
set_option linter.unusedVariables false
set_option linter.unusedSimpArgs false
set_option maxRecDepth 20000
set_option maxHeartbeats 4000000
/-- A cell that holds no slice and may be written. -/
def Scal (w : World) (a : Addr) : Prop := (∃ v, w.cell? a = some v ∧ ∀ A n c, v ≠ .slice A n c) ∧ w.frozen? a = false
/-- In some blocks cells without slices are written. -/
structure Mks (S : Nat → Prop) (w w' : World) : Prop where
  os : w'.os = w.os
  tape : w'.tape = w.tape
  output : w'.output = w.output
  size : w.heap.size ≤ w'.heap.size
  block : ∀ k, k < w.heap.size → ¬ S k → w'.heap[k]? = w.heap[k]?
  scal : ∀ a, Scal w a → Scal w' a
  slice : ∀ a A n c, w.cell? a = some (.slice A n c) → w'.cell? a = some (.slice A n c)
theorem lt_of_cell {w : World} {a : Addr} {v : Value} (h : w.cell? a = some v) : a.block < w.heap.size := by
  by_cases hb : a.block < w.heap.size
  · exact hb
  · rw [World.cell?, Array.getElem?_eq_none (by omega)] at h
    cases h
theorem frozen_of_block {w w1 : World} {a : Addr} (h : w1.heap[a.block]? = w.heap[a.block]?) : w1.frozen? a = w.frozen? a := by rw [World.frozen?, World.frozen?, h]
theorem Mks.refl (S : Nat → Prop) (w : World) : Mks S w w := ⟨rfl, rfl, rfl, Nat.le_refl _, fun _ _ _ => rfl, fun _ h => h, fun _ _ _ _ h => h⟩
theorem Mks.trans {S : Nat → Prop} {a b c : World} (h : Mks S a b) (k : Mks S b c) : Mks S a c :=
  ⟨k.os.trans h.os, k.tape.trans h.tape, k.output.trans h.output, Nat.le_trans h.size k.size, fun j hj hn => (k.block j (Nat.lt_of_lt_of_le hj h.size) hn).trans (h.block j hj hn), fun x hx => k.scal x (h.scal x hx), fun x A n c hx => k.slice x A n c (h.slice x A n c hx)⟩
theorem Mks.of {S : Nat → Prop} {w w1 : World} (h : Below w.heap.size w w1) : Mks S w w1 :=
  ⟨h.os, h.tape, h.output, h.size, fun k hk _ => h.block k hk, fun a ⟨⟨v, hv, hn⟩, hf⟩ => ⟨⟨v, (World.cell?_of_block (h.block _ (lt_of_cell hv))).trans hv, hn⟩, (frozen_of_block (h.block _ (lt_of_cell hv))).trans hf⟩,
    fun a A n c hv => (World.cell?_of_block (h.block _ (lt_of_cell hv))).trans hv⟩
theorem Mks.then {S : Nat → Prop} {a b c : World} (h : Mks S a b) (k : Below b.heap.size b c) : Mks S a c := h.trans (.of k)
theorem cell_set_same {w : World} {b o : Nat} {u v : Value} (h : w.cell? ⟨b, o, none⟩ = some u) : (w.setCell ⟨b, o, none⟩ v).cell? ⟨b, o, none⟩ = some v := by
  have hb := lt_of_cell h
  simp only [World.cell?] at h ⊢
  simp only [World.setCell, Array.getElem?_modify, if_pos]
  have hb' : b < w.heap.size := hb
  rw [Array.getElem?_eq_getElem hb'] at h ⊢
  simp only [Option.map_some]
  cases hx : w.heap[b] with
  | cells c e fr =>
    rw [hx] at h
    simp only [Option.isSome_none, Bool.false_eq_true, if_false] at h ⊢
    have ho : o < c.size := by
      by_cases ho : o < c.size
      · exact ho
      · rw [Array.getElem?_eq_none (by omega)] at h; cases h
    rw [Array.getElem?_setIfInBounds_self_of_lt ho]
  | _ => rw [hx] at h; cases h
theorem cell_set_ne {w : World} {b o : Nat} {v : Value} {a : Addr} (h : a ≠ ⟨b, o, none⟩) : (w.setCell ⟨b, o, none⟩ v).cell? a = w.cell? a := by
  obtain ⟨ab, ao, sp⟩ := a
  simp only [World.cell?, World.setCell, Array.getElem?_modify]
  by_cases hb : b = ab
  · subst hb
    simp only [if_pos]
    cases hx : w.heap[b]? with
    | none => rfl
    | some x =>
      simp only [Option.map_some]
      cases x with
      | cells c e fr =>
        simp only [Option.isSome_none, Bool.false_eq_true, if_false]
        split
        · rfl
        · rename_i hs
          have ho : o ≠ ao := fun e => by
            subst e
            apply h
            cases sp with
            | none => rfl
            | some x => exact absurd rfl hs
          rw [Array.getElem?_setIfInBounds_ne ho]
      | _ => rfl
  · simp only [if_neg hb]
theorem frozen_set {w : World} {p : Addr} {v : Value} {a : Addr} : (w.setCell p v).frozen? a = w.frozen? a := by
  simp only [World.frozen?, World.setCell, Array.getElem?_modify]
  by_cases e : p.block = a.block
  · simp only [if_pos e]
    cases hx : w.heap[a.block]? with
    | none => rfl
    | some x => cases x <;> rfl
  · simp only [if_neg e]
theorem Mks.set {S : Nat → Prop} {w : World} {b o : Nat} {v : Value} (hs : Scal w ⟨b, o, none⟩) (hb : S b) (hv : ∀ A n c, v ≠ .slice A n c) : Mks S w (w.setCell ⟨b, o, none⟩ v) := by
  obtain ⟨⟨u, hu, hn⟩, hf⟩ := hs
  refine ⟨rfl, rfl, rfl, by simp [World.setCell], fun k _ hk => Below.heap_setCell _ _ _ _ (fun e => hk (by rw [e]; exact hb)), fun a ha => ?_, fun a A n c ha => ?_⟩
  · refine ⟨?_, frozen_set.trans ha.2⟩
    by_cases e : a = ⟨b, o, none⟩
    · subst e; exact ⟨v, cell_set_same hu, hv⟩
    · rw [cell_set_ne e]; exact ha.1
  · have e : a ≠ ⟨b, o, none⟩ := fun e => by
      subst e
      rw [hu] at ha
      injection ha with ha
      exact hn _ _ _ ha
    rw [cell_set_ne e]; exact ha
/-- What marks want of a tree. -/
inductive ShK (w : World) (S : Nat → Prop) : Nd → Sh → Prop
  | mk (n : Nd) (s : Sh) (cf : Nat → Sh)
      (hd : n.decls = [] ∨ ∃ b o, s.Ad = some ⟨b, o, none⟩ ∧ S b ∧ ∀ i, i < n.decls.length * 2 → Scal w ⟨b, o + i, none⟩)
      (ha : n.attrs = [] ∨ ∃ b o, s.Aa = some ⟨b, o, none⟩ ∧ S b ∧ ∀ i, i < n.attrs.length * 4 → Scal w ⟨b, o + i, none⟩)
      (hk : n.kids = [] ∨ ∃ b o, s.Ak = some ⟨b, o, none⟩ ∧ S b ∧ ∀ i (hi : i < n.kids.length), (∀ j, j < 4 → Scal w ⟨b, o + i * 8 + j, none⟩) ∧ Scal w ⟨b, o + i * 8 + 7, none⟩ ∧
        w.cell? ⟨b, o + i * 8 + 4, none⟩ = some (.slice (cf i).Ad (n.kids[i]'hi).decls.length (cf i).cd) ∧ w.cell? ⟨b, o + i * 8 + 5, none⟩ = some (.slice (cf i).Aa (n.kids[i]'hi).attrs.length (cf i).ca) ∧ w.cell? ⟨b, o + i * 8 + 6, none⟩ = some (.slice (cf i).Ak (n.kids[i]'hi).kids.length (cf i).ck))
      (kk : ∀ i (hi : i < n.kids.length), ShK w S (n.kids[i]'hi) (cf i)) : ShK w S n s
theorem ShK.marked {w w1 : World} {S : Nat → Prop} {n : Nd} {s : Sh} (h : ShK w S n s) (hm : Mks S w w1) : ShK w1 S n s := by
  induction h with
  | mk n s cf hd ha hk kk ih =>
    refine .mk n s cf ?_ ?_ ?_ ih
    · rcases hd with h | ⟨b, o, hA, hS, hi⟩
      · exact .inl h
      · exact .inr ⟨b, o, hA, hS, fun i h => hm.scal _ (hi i h)⟩
    · rcases ha with h | ⟨b, o, hA, hS, hi⟩
      · exact .inl h
      · exact .inr ⟨b, o, hA, hS, fun i h => hm.scal _ (hi i h)⟩
    · rcases hk with h | ⟨b, o, hA, hS, hi⟩
      · exact .inl h
      · exact .inr ⟨b, o, hA, hS, fun i h => by
          obtain ⟨h1, h2, h3, h4, h5⟩ := hi i h
          exact ⟨fun j hj => hm.scal _ (h1 j hj), hm.scal _ h2, hm.slice _ _ _ _ h3, hm.slice _ _ _ _ h4, hm.slice _ _ _ _ h5⟩⟩
theorem scal_of {w : World} {b o : Nat} {v : Value} (h : w.cell? ⟨b, o, none⟩ = some v) (hv : ∀ A n c, v ≠ .slice A n c) (t : Thaw w b) : Scal w ⟨b, o, none⟩ := ⟨⟨v, h, hv⟩, t.frozen o⟩
theorem str_ns (s : ByteArray) : ∀ A n c, Value.string s ≠ .slice A n c := fun _ _ _ h => by cases h
theorem int_ns (k : IntKind) (i : Int) : ∀ A n c, Value.int k i ≠ .slice A n c := fun _ _ _ h => by cases h
theorem row_scal {α : Type} {sz : Nat} {enc : α → List Value} {hl : ∀ x, (enc x).length = sz} {w : World} {ok : Nat → Prop} {A : Option Addr} {xs : List α} (h0 : 0 < sz) (hr : Row (Kd.flat sz enc hl) w ok A xs)
    (hs : ∀ x, ∀ u ∈ enc x, ∀ A n c, u ≠ .slice A n c) (ht : ∀ k, ok k → Thaw w k) : xs = [] ∨ ∃ b o, A = some ⟨b, o, none⟩ ∧ ok b ∧ ∀ i, i < xs.length * sz → Scal w ⟨b, o + i, none⟩ := by
  rcases hr.2 with h | ⟨b, o, hA, hb, hlt, hi⟩
  · exact .inl h
  · refine .inr ⟨b, o, hA, hb, fun i h => ?_⟩
    have hq : i / sz < xs.length := Nat.div_lt_of_lt_mul (by rw [Nat.mul_comm]; exact h)
    obtain ⟨cs, hk, hc⟩ := hi (i / sz) hq
    have hk : cs = enc (xs[i / sz]'hq) := hk
    have hm : i % sz < cs.length := by rw [hk, hl]; exact Nat.mod_lt _ h0
    have hcc := hc (i % sz) _ (List.getElem?_eq_getElem hm)
    have e : o + i / sz * (Kd.flat sz enc hl).sz + i % sz = o + i := by
      show o + i / sz * sz + i % sz = o + i
      have := Nat.div_add_mod i sz
      rw [Nat.mul_comm] at this
      omega
    rw [e] at hcc
    exact scal_of hcc (hs _ _ (by rw [← hk]; exact List.getElem_mem hm)) (ht b hb)
theorem dcl_ns (d : Dcl) : ∀ u ∈ d.cells, ∀ A n c, u ≠ .slice A n c := by
  intro u hu
  simp only [Dcl.cells, List.mem_cons, List.not_mem_nil, or_false] at hu
  rcases hu with rfl | rfl <;> exact str_ns _
theorem atr_ns (d : Atr) : ∀ u ∈ d.cells, ∀ A n c, u ≠ .slice A n c := by
  intro u hu
  simp only [Atr.cells, List.mem_cons, List.not_mem_nil, or_false] at hu
  rcases hu with rfl | rfl | rfl | rfl <;> exact str_ns _
theorem shK_of {w : World} {ok : Nat → Prop} (ht : ∀ k, ok k → Thaw w k) : ∀ (N : Nat) (n : Nd) (s : Sh), cnt n ≤ N → NodeIs w ok n s → ShK w ok n s := by
  intro N
  induction N with
  | zero => intro n s h0; rw [cnt_eq] at h0; omega
  | succ N ih =>
    intro n s hN hn
    have hd := row_scal (by decide) hn.decls dcl_ns ht
    have ha := row_scal (by decide) hn.attrs atr_ns ht
    rcases hn.kids.2 with hk | ⟨b, o, hA, hb, hlt, hi⟩
    · exact .mk n s (fun _ => s) hd ha (.inl hk) (fun i hi => by rw [hk] at hi; exact absurd hi (Nat.not_lt_zero _))
    · have hi2 : ∀ i (h : i < n.kids.length), ∃ t, NodeIs w ok (n.kids[i]'h) t ∧ ∀ j v, ((n.kids[i]'h).cells t)[j]? = some v → w.cell? ⟨b, o + i * 8 + j, none⟩ = some v := fun i h => by
        obtain ⟨cs, hk, hc⟩ := hi i h
        obtain ⟨t, rfl, hs⟩ := NodeK.is hk
        exact ⟨t, hs, hc⟩
      refine .mk n s (fun i => if h : i < n.kids.length then Classical.choose (hi2 i h) else s) hd ha (.inr ⟨b, o, hA, hb, fun i h => ?_⟩) (fun i h => ?_)
      · simp only [dif_pos h]
        obtain ⟨_, hc⟩ := Classical.choose_spec (hi2 i h)
        refine ⟨fun j hj => ?_, scal_of (hc 7 _ rfl) (str_ns _) (ht b hb), hc 4 _ rfl, hc 5 _ rfl, hc 6 _ rfl⟩
        match j, hj with
        | 0, _ => exact scal_of (hc 0 _ rfl) (int_ns _ _) (ht b hb)
        | 1, _ => exact scal_of (hc 1 _ rfl) (str_ns _) (ht b hb)
        | 2, _ => exact scal_of (hc 2 _ rfl) (str_ns _) (ht b hb)
        | 3, _ => exact scal_of (hc 3 _ rfl) (str_ns _) (ht b hb)
      · simp only [dif_pos h]
        exact ih _ _ (by have := cnt_kid h; omega) (Classical.choose_spec (hi2 i h)).1
/-! ### how many marks -/
mutual
def mkN : Nd → Nat
  | ⟨_, _, _, _, decls, attrs, kids, _⟩ => decls.length * 2 + attrs.length * 4 + mkL kids
def mkL : List Nd → Nat
  | [] => 0
  | n :: r => (5 + mkN n) + mkL r
end
theorem mkN_eq (n : Nd) : mkN n = n.decls.length * 2 + n.attrs.length * 4 + mkL n.kids := by cases n; rw [mkN]
theorem mkL_sum (l : List Nd) : mkL l = sumOf (fun n => 5 + mkN n) l := by
  induction l with
  | nil => rfl
  | cons x l ih => rw [mkL, sumOf, ih]
theorem mkN_le : ∀ (N : Nat) (n : Nd), cnt n ≤ N → mkN n ≤ 5 * wt n := by
  intro N
  induction N with
  | zero => intro n h0; rw [cnt_eq] at h0; omega
  | succ N ih =>
    intro n hN
    have h1 : ∀ l : List Nd, (∀ k ∈ l, mkN k ≤ 5 * wt k) → mkL l ≤ 5 * (l.length + wtL l) := by
      intro l
      induction l with
      | nil => intro _; simp [mkL]
      | cons x l ihl =>
        intro h
        have := ihl (fun k hk => h k (List.mem_cons_of_mem _ hk))
        have := h x (List.mem_cons_self ..)
        simp only [mkL, wtL, List.length_cons]
        omega
    have := h1 n.kids (fun k hk => by
      obtain ⟨i, hi, rfl⟩ := List.getElem_of_mem hk
      exact ih _ (by have := cnt_kid hi; omega))
    rw [mkN_eq, wt_eq]
    omega
/-- What marks want of a row of nodes. -/
def RowSh (w : World) (S : Nat → Prop) (A : Option Addr) (xs : List Nd) : Prop :=
  xs = [] ∨ ∃ b o, A = some ⟨b, o, none⟩ ∧ S b ∧ ∀ i (hi : i < xs.length), ∃ t : Sh, (∀ j, j < 4 → Scal w ⟨b, o + i * 8 + j, none⟩) ∧ Scal w ⟨b, o + i * 8 + 7, none⟩ ∧
        w.cell? ⟨b, o + i * 8 + 4, none⟩ = some (.slice t.Ad (xs[i]'hi).decls.length t.cd) ∧ w.cell? ⟨b, o + i * 8 + 5, none⟩ = some (.slice t.Aa (xs[i]'hi).attrs.length t.ca) ∧ w.cell? ⟨b, o + i * 8 + 6, none⟩ = some (.slice t.Ak (xs[i]'hi).kids.length t.ck) ∧ ShK w S (xs[i]'hi) t
def RowSc (w : World) (S : Nat → Prop) (A : Option Addr) (n : Nat) : Prop := n = 0 ∨ ∃ b o, A = some ⟨b, o, none⟩ ∧ S b ∧ ∀ i, i < n → Scal w ⟨b, o + i, none⟩
theorem ShK.parts {w : World} {S : Nat → Prop} {n : Nd} {s : Sh} (h : ShK w S n s) : RowSc w S s.Ad (n.decls.length * 2) ∧ RowSc w S s.Aa (n.attrs.length * 4) ∧ RowSh w S s.Ak n.kids := by
  cases h with
  | mk _ _ cf hd ha hk kk =>
    refine ⟨?_, ?_, ?_⟩
    · rcases hd with h | h
      · exact .inl (by simp [h])
      · exact .inr h
    · rcases ha with h | h
      · exact .inl (by simp [h])
      · exact .inr h
    · rcases hk with h | ⟨b, o, hA, hS, hi⟩
      · exact .inl h
      · exact .inr ⟨b, o, hA, hS, fun i h => ⟨cf i, (hi i h).1, (hi i h).2.1, (hi i h).2.2.1, (hi i h).2.2.2.1, (hi i h).2.2.2.2, kk i h⟩⟩
theorem RowSh.marked {w w1 : World} {S : Nat → Prop} {A : Option Addr} {xs : List Nd} (h : RowSh w S A xs) (hm : Mks S w w1) : RowSh w1 S A xs := by
  rcases h with h | ⟨b, o, hA, hS, hi⟩
  · exact .inl h
  · exact .inr ⟨b, o, hA, hS, fun i h => by
      obtain ⟨t, h1, h2, h3, h4, h5, h6⟩ := hi i h
      exact ⟨t, fun j hj => hm.scal _ (h1 j hj), hm.scal _ h2, hm.slice _ _ _ _ h3, hm.slice _ _ _ _ h4, hm.slice _ _ _ _ h5, h6.marked hm⟩⟩
theorem RowSc.marked {w w1 : World} {S : Nat → Prop} {A : Option Addr} {n : Nat} (h : RowSc w S A n) (hm : Mks S w w1) : RowSc w1 S A n := by
  rcases h with h | ⟨b, o, hA, hS, hi⟩
  · exact .inl h
  · exact .inr ⟨b, o, hA, hS, fun i h => hm.scal _ (hi i h)⟩
theorem Scal.marked {w w1 : World} {S : Nat → Prop} {a : Addr} (h : Scal w a) (hm : Mks S w w1) : Scal w1 a := hm.scal _ h
/-- A text is put. -/
theorem Mks.puts {S : Nat → Prop} {w w1 w2 : World} {b o : Nat} {s : ByteArray} (hm : Mks S w w1) (hb : Below w1.heap.size w1 w2) (h0 : Scal w ⟨b, o, none⟩) (hS : S b) : Mks S w (w2.setCell ⟨b, o, none⟩ (.string s)) :=
  (hm.then hb).trans (Mks.set ((h0.marked hm).marked (.of (S := S) hb)) hS (str_ns _))
end Go.Proofs.YtpcklgkpjmmakaaGreatDoor
end
section
/- The laws' markText. -/
namespace Go.Proofs.YtpcklgkpjmmakaaGreatDoor
open Go.RowKit
set_option linter.unusedVariables false
set_option linter.unusedSimpArgs false
set_option maxRecDepth 20000
set_option maxHeartbeats 4000000
def mkD : Nat → Nat → ByteArray → ByteArray
  | 0, _, out => out
  | f + 1, k, out => if k = 0 then out else mkD f (k / 10) (strOfNums [48 + ((k % 10 : Nat) : Int)] ++ out)
def markB (k : Nat) : ByteArray := (⟨#[109]⟩ : ByteArray) ++ mkD k k ⟨#[]⟩
theorem mkD_fuel : ∀ (f f' k : Nat) (out : ByteArray), k ≤ f → k ≤ f' → mkD f k out = mkD f' k out
  | 0, 0, _, _, _, _ => rfl
  | 0, f' + 1, k, out, h, _ => by rw [mkD, mkD, if_pos (by omega)]
  | f + 1, 0, k, out, _, h => by rw [mkD, mkD, if_pos (by omega)]
  | f + 1, f' + 1, k, out, h1, h2 => by
    rw [mkD, mkD]
    split
    · rfl
    · rw [mkD_fuel f f' (k / 10) _ (by omega) (by omega)]
theorem mkD_at {k : Nat} {out : ByteArray} (h : ¬ k = 0) : mkD k k out = mkD (k / 10) (k / 10) (strOfNums [48 + ((k % 10 : Nat) : Int)] ++ out) := by
  obtain ⟨j, rfl⟩ : ∃ j, k = j + 1 := ⟨k - 1, by omega⟩
  rw [mkD, if_neg h, mkD_fuel j ((j + 1) / 10) _ _ (by omega) (by omega)]
theorem conv_byteM (W : World) (u : Int) : (convert 22 9 (.slice (some ⟨W.heap.size, 0, none⟩) 1 1)).run Tryz.prog (W.alloc (.cells #[.int .u8 u] 5)) = .ok (.string (strOfNums [u])) (W.alloc (.cells #[.int .u8 u] 5)) := by
  refine run_convert_bytes_arg (P := Tryz.prog) _ 22 5 Tryz.underlying22 Tryz.underlying5 W.heap.size 0 1 1 [u] rfl ?_ 9 Tryz.underlying9
  intro i hi
  obtain rfl : i = 0 := by omega
  simp
theorem markText_calls (k : Nat) (w : World) (h1 : 1 ≤ k) (h2 : k ≤ 1099511627776) :
    Calls Tryz.prog 102 #[.int .i64 (k : Nat)] w fun e w' => e = .returned (.string (markB k)) ∧ Below w.heap.size w w' := by
  obtain ⟨R, hR⟩ : ∃ R, R = mkD k k ⟨#[]⟩ := ⟨_, rfl⟩
  have hv := Aside0.mk (show markB k = (⟨#[109]⟩ : ByteArray) ++ R by rw [markB, hR])
  have hR := Aside0.mk hR
  go_enter Tryz.func102, Tryz.ntmps102
  go_wp2
  go_loopg [0, 3] k (fun g x s wr => ∃ (j : Nat) (t : ByteArray), x = .int .i64 (j : Nat) ∧ s = .string t ∧ j = g ∧ t.size + j ≤ k ∧ Aside (R = mkD j j t) ∧ Below w.heap.size w wr)
  case atStart => exact ⟨k, _, rfl, rfl, rfl, by show 0 + k ≤ k; omega, hR.out, Below.refl _ _⟩
  case round =>
    obtain ⟨j, t, rfl, rfl, hk, hts, ha, hb⟩ := hrel
    subst hk
    by_cases hj : j = 0
    · subst hj
      have hfin := Aside0.mk (show markB k = (⟨#[109]⟩ : ByteArray) ++ t by rw [hv.out, ha.out]; rfl)
      have hss : ¬ (9223372036854775807 < (⟨#[109]⟩ : ByteArray).size + t.size) := by
        show ¬ (9223372036854775807 < 1 + t.size)
        omega
      clear ha
      go_wp2
      go_ret
      exact ⟨by rw [hfin.out]; rfl, hb⟩
    · have hcv := conv_byteM wr
      have ha2 := Aside0.mk (ha.out.trans (mkD_at hj))
      clear ha
      have hss : ∀ u : Int, ¬ (9223372036854775807 < (strOfNums [u]).size + t.size) := fun u => by rw [strOfNums_size]; simp; omega
      have hsz : ∀ u : Int, (strOfNums [u] ++ t).size = 1 + t.size := fun u => by rw [ByteArray.size_append, strOfNums_size]; rfl
      have HSZ := Aside0.mk hsz
      have hjp : (0 : Int) < (j : Int) := by omega
      have ha3 := Aside0.mk (show R = mkD (j / 10) (j / 10) (strOfNums [48 + (j : Int) % 10] ++ t) by rw [ha2.out]; rfl)
      clear hsz
      go_wp2
      go_roundg (j / 10)
      case measure => omega
      case rel => exact ⟨j / 10, _, rfl, rfl, rfl, by rw [HSZ.out]; omega, ha3.out, below_alloc hb _⟩
end Go.Proofs.YtpcklgkpjmmakaaGreatDoor
end
section
/- The laws' marks of trees. -/
namespace Go.Proofs.YtpcklgkpjmmakaaGreatDoor
open Go.RowKit
set_option linter.unusedVariables false
set_option linter.unusedSimpArgs false
set_option maxRecDepth 20000
set_option maxHeartbeats 1000000
theorem markDeclS_calls {S : Nat → Prop} (A : Option Addr) (n c k : Nat) (w : World) (hs : RowSc w S A (n * 2)) (hk : 1 ≤ k) (hk2 : k + n * 2 ≤ 1000000000) :
    Calls Tryz.prog 73 #[.slice A n c, .int .i64 (k : Nat)] w fun e w' => e = .returned (.int .i64 ((k + n * 2 : Nat) : Int)) ∧ Mks S w w' := by
  have hn9 : n ≤ 1000000000 := by omega
  have HT := Aside0.mk (fun (j : Nat) W (h : 1 ≤ j) (h2 : j ≤ 1099511627776) => markText_calls j W h h2)
  replace hs := Aside0.mk hs
  go_enter Tryz.func73, Tryz.ntmps73
  go_wp2
  go_loopg [1, 5] n (fun gd u i wr => ∃ (j : Nat), u = .int .i64 ((k + j * 2 : Nat) : Int) ∧ i = .int .i64 (j : Nat) ∧ j + gd = n ∧ Aside (Mks S w wr))
  case atStart => exact ⟨0, rfl, rfl, by omega, Mks.refl _ _⟩
  case round =>
    obtain ⟨j, rfl, rfl, hj, hm⟩ := hrel
    by_cases hlt : j < n
    · rcases hs.out with h | ⟨b, o, rfl, hS, hi⟩
      · omega
      have HI := Aside0.mk hi
      have HM := Aside0.mk hm.out
      clear hi hm
      obtain ⟨K, hK⟩ : ∃ K, K = k + j * 2 := ⟨_, rfl⟩
      have hKb : 1 ≤ K ∧ K + 2 ≤ 1000000000 := by omega
      have hK1 : (K : Int) ≤ 1000000000 := by omega
      rw [← hK]
      replace hK := Aside0.mk hK
      have HT0 := Aside0.mk (fun W => HT.out K W hKb.1 (by omega))
      have HT1 := Aside0.mk (fun W => HT.out (K + 1) W (by omega) (by omega))
      rw [show ((K + 1 : Nat) : Int) = (K : Int) + 1 from rfl] at HT1
      go_wp2_with fail
      refine (HT0.out _).mono ?_
      rintro e w1 ⟨rfl, hb1⟩
      have s0 := Aside0.mk (((HI.out (j * 2) (by omega)).marked HM.out).marked (.of (S := S) hb1))
      obtain ⟨⟨u0, hu0, _⟩, hf0⟩ := s0.out
      have HM1 := Aside0.mk (Mks.puts (s := markB K) HM.out hb1 (HI.out (j * 2) (by omega)) hS)
      go_wp2_with fail
      refine (HT1.out _).mono ?_
      rintro e w3 ⟨rfl, hb3⟩
      clear hu0 hf0
      have s1 := Aside0.mk (((HI.out (j * 2 + 1) (by omega)).marked HM1.out).marked (.of (S := S) hb3))
      rw [← Nat.add_assoc] at s1
      obtain ⟨⟨u1, hu1, _⟩, hf1⟩ := s1.out
      have HM2 := Aside0.mk (Mks.puts (s := markB (K + 1)) HM1.out hb3 (HI.out (j * 2 + 1) (by omega)) hS)
      clear hb1 hb3
      go_wp2
      go_roundg (gk - 1)
      case measure => omega
      case rel => exact ⟨j + 1, by rw [show k + (j + 1) * 2 = K + 1 + 1 by rw [hK.out]; omega]; go_num, by go_num, by omega, HM2.out⟩
    · have hfin := Aside0.mk (show k + j * 2 = k + n * 2 by omega)
      clear hs
      go_wp2
      go_ret
      exact ⟨by rw [← hfin.out]; rfl, hm.out⟩
theorem markAttrS_calls {S : Nat → Prop} (A : Option Addr) (n c k : Nat) (w : World) (hs : RowSc w S A (n * 4)) (hk : 1 ≤ k) (hk2 : k + n * 4 ≤ 1000000000) :
    Calls Tryz.prog 74 #[.slice A n c, .int .i64 (k : Nat)] w fun e w' => e = .returned (.int .i64 ((k + n * 4 : Nat) : Int)) ∧ Mks S w w' := by
  have hn9 : n ≤ 1000000000 := by omega
  have HT := Aside0.mk (fun (j : Nat) W (h : 1 ≤ j) (h2 : j ≤ 1099511627776) => markText_calls j W h h2)
  replace hs := Aside0.mk hs
  go_enter Tryz.func74, Tryz.ntmps74
  go_wp2
  go_loopg [1, 5] n (fun gd u i wr => ∃ (j : Nat), u = .int .i64 ((k + j * 4 : Nat) : Int) ∧ i = .int .i64 (j : Nat) ∧ j + gd = n ∧ Aside (Mks S w wr))
  case atStart => exact ⟨0, rfl, rfl, by omega, Mks.refl _ _⟩
  case round =>
    obtain ⟨j, rfl, rfl, hj, hm⟩ := hrel
    by_cases hlt : j < n
    · rcases hs.out with h | ⟨b, o, rfl, hS, hi⟩
      · omega
      have HI := Aside0.mk hi
      have HM0 := Aside0.mk hm.out
      clear hi hm
      obtain ⟨K, hK⟩ : ∃ K, K = k + j * 4 := ⟨_, rfl⟩
      have hKb : 1 ≤ K ∧ K + 4 ≤ 1000000000 := by omega
      have hK1 : (K : Int) ≤ 1000000000 := by omega
      rw [← hK]
      replace hK := Aside0.mk hK
      have HT0 := Aside0.mk (fun W => HT.out K W hKb.1 (by omega))
      have HT1 := Aside0.mk (fun W => HT.out (K + 1) W (by omega) (by omega))
      rw [show ((K + 1 : Nat) : Int) = (K : Int) + 1 from rfl] at HT1
      have HT2 := Aside0.mk (fun W => HT.out (K + 1 + 1) W (by omega) (by omega))
      rw [show ((K + 1 + 1 : Nat) : Int) = (K : Int) + 1 + 1 from rfl] at HT2
      have HT3 := Aside0.mk (fun W => HT.out (K + 1 + 1 + 1) W (by omega) (by omega))
      rw [show ((K + 1 + 1 + 1 : Nat) : Int) = (K : Int) + 1 + 1 + 1 from rfl] at HT3
      go_wp2_with fail
      refine (HT0.out _).mono ?_
      rintro e w1 ⟨rfl, hb0⟩
      have s0 := Aside0.mk (((HI.out (j * 4) (by omega)).marked HM0.out).marked (.of (S := S) hb0))
      obtain ⟨⟨u0, hu0, _⟩, hf0⟩ := s0.out
      have HM1 := Aside0.mk (Mks.puts (s := markB (K)) HM0.out hb0 (HI.out (j * 4) (by omega)) hS)
      go_wp2_with fail
      refine (HT1.out _).mono ?_
      rintro e w2 ⟨rfl, hb1⟩
      clear hu0 hf0
      have s1 := Aside0.mk (((HI.out (j * 4 + 1) (by omega)).marked HM1.out).marked (.of (S := S) hb1))
      rw [← Nat.add_assoc] at s1
      obtain ⟨⟨u1, hu1, _⟩, hf1⟩ := s1.out
      have HM2 := Aside0.mk (Mks.puts (s := markB (K + 1)) HM1.out hb1 (HI.out (j * 4 + 1) (by omega)) hS)
      go_wp2_with fail
      refine (HT2.out _).mono ?_
      rintro e w3 ⟨rfl, hb2⟩
      clear hu1 hf1
      have s2 := Aside0.mk (((HI.out (j * 4 + 2) (by omega)).marked HM2.out).marked (.of (S := S) hb2))
      rw [← Nat.add_assoc] at s2
      obtain ⟨⟨u2, hu2, _⟩, hf2⟩ := s2.out
      have HM3 := Aside0.mk (Mks.puts (s := markB (K + 1 + 1)) HM2.out hb2 (HI.out (j * 4 + 2) (by omega)) hS)
      go_wp2_with fail
      refine (HT3.out _).mono ?_
      rintro e w4 ⟨rfl, hb3⟩
      clear hu2 hf2
      have s3 := Aside0.mk (((HI.out (j * 4 + 3) (by omega)).marked HM3.out).marked (.of (S := S) hb3))
      rw [← Nat.add_assoc] at s3
      obtain ⟨⟨u3, hu3, _⟩, hf3⟩ := s3.out
      have HM4 := Aside0.mk (Mks.puts (s := markB (K + 1 + 1 + 1)) HM3.out hb3 (HI.out (j * 4 + 3) (by omega)) hS)
      clear hb0 hb1 hb2 hb3
      go_wp2
      go_roundg (gk - 1)
      case measure => omega
      case rel => exact ⟨j + 1, by rw [show k + (j + 1) * 4 = K + 1 + 1 + 1 + 1 by rw [hK.out]; omega]; go_num, by go_num, by omega, HM4.out⟩
    · have hfin := Aside0.mk (show k + j * 4 = k + n * 4 by omega)
      clear hs
      go_wp2
      go_ret
      exact ⟨by rw [← hfin.out]; rfl, hm.out⟩
theorem mkL_take (xs : List Nd) (j : Nat) (h : j < xs.length) : mkL (xs.take (j + 1)) = mkL (xs.take j) + (5 + mkN (xs[j]'h)) := by
  rw [mkL_sum, mkL_sum, sumOf_take _ _ _ h]
theorem mkL_le (xs : List Nd) (j : Nat) : mkL (xs.take j) ≤ mkL xs := by
  rw [mkL_sum, mkL_sum]; exact sumOf_le _ _ _
theorem markNodeS_calls {S : Nat → Prop} : ∀ (N : Nat) (xs : List Nd) (A : Option Addr) (c k : Nat) (w : World), cntL xs ≤ N → RowSh w S A xs → xs.length ≤ 1000000000 → 1 ≤ k → k + mkL xs ≤ 1000000000 →
    Calls Tryz.prog 75 #[.slice A xs.length c, .int .i64 (k : Nat)] w fun e w' => e = .returned (.int .i64 ((k + mkL xs : Nat) : Int)) ∧ Mks S w w' := by
  intro N
  induction N with
  | zero =>
    intro xs A c k w h0 hs hn9 hk hk2
    obtain rfl : xs = [] := by
      cases xs with
      | nil => rfl
      | cons x l => rw [cntL, cnt_eq] at h0; omega
    clear hs
    go_enter Tryz.func75, Tryz.ntmps75
    go_wp2
    go_loopg [1, 5] 0 (fun gd u i wr => u = .int .i64 (k : Nat) ∧ i = .int .i64 0 ∧ wr = w)
    case atStart => exact ⟨rfl, rfl, rfl⟩
    case round =>
      obtain ⟨rfl, rfl, rfl⟩ := hrel
      go_wp2
      go_ret
      exact ⟨rfl, Mks.refl _ _⟩
  | succ N ih =>
  intro xs A c k w hN hs hn9 hk hk2
  have HT := Aside0.mk (fun (j : Nat) W (h : 1 ≤ j) (h2 : j ≤ 1099511627776) => markText_calls j W h h2)
  have Ih := Aside0.mk (show ∀ i (hi : i < xs.length), ∀ (A : Option Addr) (c k : Nat) (w : World), RowSh w S A (xs[i]'hi).kids → (xs[i]'hi).kids.length ≤ 1000000000 → 1 ≤ k → k + mkL (xs[i]'hi).kids ≤ 1000000000 →
      Calls Tryz.prog 75 #[.slice A (xs[i]'hi).kids.length c, .int .i64 (k : Nat)] w (fun e w' => e = .returned (.int .i64 ((k + mkL (xs[i]'hi).kids : Nat) : Int)) ∧ Mks S w w') from fun i hi A c k w =>
    ih (xs[i]'hi).kids A c k w (by have h1 := cntL_take xs i hi; have h2 := cntL_le xs (i + 1); have h3 := cnt_eq (xs[i]'hi); omega))
  have HS := Aside0.mk hs
  clear ih hN hs
  go_enter Tryz.func75, Tryz.ntmps75
  go_wp2
  go_loopg [1, 5] xs.length (fun gd u i wr => ∃ (j : Nat), u = .int .i64 ((k + mkL (xs.take j) : Nat) : Int) ∧ i = .int .i64 (j : Nat) ∧ j + gd = xs.length ∧ Aside (Mks S w wr))
  case atStart => exact ⟨0, rfl, rfl, by omega, Mks.refl _ _⟩
  case round =>
    obtain ⟨j, rfl, rfl, hj, hm⟩ := hrel
    by_cases hlt : j < xs.length
    · rcases HS.out with h | ⟨b, o, rfl, hS, hi⟩
      · exfalso; rw [h] at hlt; exact absurd hlt (Nat.not_lt_zero _)
      obtain ⟨t, ht⟩ := hi j hlt
      have HI := Aside0.mk ht
      obtain ⟨Ad, cd, Aa, ca, Ak, ck⟩ := t
      have hms := mkL_take xs j hlt
      have hml := mkL_le xs (j + 1)
      have hne := mkN_eq (xs[j]'hlt)
      obtain ⟨x, hx⟩ : ∃ x, x = xs[j]'hlt := ⟨_, rfl⟩
      have HX := Aside0.mk (Ih.out j hlt)
      rw [← hx] at HI hms hne HX
      replace hx := Aside0.mk hx
      simp only at HI
      have HM0 := Aside0.mk hm.out
      clear hi ht hm
      obtain ⟨K, hK⟩ : ∃ K, K = k + mkL (xs.take j) := ⟨_, rfl⟩
      have hKb : 1 ≤ K ∧ K + 5 + mkN x ≤ 1000000000 := by omega
      have hK1 : (K : Int) ≤ 1000000000 := by omega
      have hd9 : x.decls.length * 2 + x.attrs.length * 4 + mkL x.kids ≤ mkN x ∧ mkN x ≤ x.decls.length * 2 + x.attrs.length * 4 + mkL x.kids := by omega
      have hl9 : x.kids.length ≤ mkL x.kids := by
        have : ∀ l : List Nd, l.length ≤ mkL l := fun l => by
          induction l with
          | nil => simp [mkL]
          | cons y l ih => simp only [mkL, List.length_cons]; omega
        exact this _
      rw [← hK]
      have hKn := Aside0.mk (show k + mkL (xs.take (j + 1)) = K + 5 + mkN x by rw [hms, hK]; omega)
      clear hK hms hml hne
      have HT1 := Aside0.mk (fun W => HT.out (K + 1) W (by omega) (by omega))
      rw [show ((K + 1 : Nat) : Int) = (K : Int) + 1 from rfl] at HT1
      have HT2 := Aside0.mk (fun W => HT.out (K + 1 + 1) W (by omega) (by omega))
      rw [show ((K + 1 + 1 : Nat) : Int) = (K : Int) + 1 + 1 from rfl] at HT2
      have HT3 := Aside0.mk (fun W => HT.out (K + 1 + 1 + 1) W (by omega) (by omega))
      rw [show ((K + 1 + 1 + 1 : Nat) : Int) = (K : Int) + 1 + 1 + 1 from rfl] at HT3
      have s0 := Aside0.mk (show Scal wr ⟨b, o + j * 8, none⟩ from (HI.out.1 0 (by omega)).marked HM0.out)
      obtain ⟨⟨u0, hu0, _⟩, hf0⟩ := s0.out
      have HM1 := Aside0.mk (HM0.out.trans (Mks.set (v := .int .i64 (K : Nat)) s0.out hS (int_ns _ _)))
      go_wp2_with fail
      refine (HT1.out _).mono ?_
      rintro e w1 ⟨rfl, hb1⟩
      clear hu0 hf0
      have s1 := Aside0.mk (((HI.out.1 1 (by omega)).marked HM1.out).marked (.of (S := S) hb1))
      obtain ⟨⟨u1, hu1, _⟩, hf1⟩ := s1.out
      have HM2 := Aside0.mk (Mks.puts (s := markB (K + 1)) HM1.out hb1 (HI.out.1 1 (by omega)) hS)
      go_wp2_with fail
      refine (HT2.out _).mono ?_
      rintro e w2 ⟨rfl, hb2⟩
      clear hu1 hf1
      have s2 := Aside0.mk (((HI.out.1 2 (by omega)).marked HM2.out).marked (.of (S := S) hb2))
      obtain ⟨⟨u2, hu2, _⟩, hf2⟩ := s2.out
      have HM3 := Aside0.mk (Mks.puts (s := markB (K + 1 + 1)) HM2.out hb2 (HI.out.1 2 (by omega)) hS)
      go_wp2_with fail
      refine (HT3.out _).mono ?_
      rintro e w3 ⟨rfl, hb3⟩
      clear hu2 hf2
      have s3 := Aside0.mk (((HI.out.1 3 (by omega)).marked HM3.out).marked (.of (S := S) hb3))
      obtain ⟨⟨u3, hu3, _⟩, hf3⟩ := s3.out
      have HM4 := Aside0.mk (Mks.puts (s := markB (K + 1 + 1 + 1)) HM3.out hb3 (HI.out.1 3 (by omega)) hS)
      -- decls
      have HP := Aside0.mk HI.out.2.2.2.2.2.parts
      have l4 := HM4.out.slice _ _ _ _ HI.out.2.2.1
      have HD := Aside0.mk (fun W (h : Mks S w W) => markDeclS_calls Ad x.decls.length cd (K + 1 + 1 + 1 + 1) W (HP.out.1.marked h) (by omega) (by omega))
      rw [show ((K + 1 + 1 + 1 + 1 : Nat) : Int) = (K : Int) + 1 + 1 + 1 + 1 from rfl] at HD
      go_wp2_with fail
      refine (HD.out _ HM4.out).mono ?_
      rintro e w5 ⟨rfl, hm5⟩
      clear hu3 hf3 l4 hb1 hb2 hb3
      have HM5 := Aside0.mk (HM4.out.trans hm5)
      obtain ⟨K5, hK5⟩ : ∃ K5, K5 = K + 1 + 1 + 1 + 1 + x.decls.length * 2 := ⟨_, rfl⟩
      rw [← hK5]
      have b5 : K + 1 + 1 + 1 + 1 + x.decls.length * 2 ≤ K5 ∧ K5 ≤ K + 1 + 1 + 1 + 1 + x.decls.length * 2 := by omega
      clear hK5
      have l5 := HM5.out.slice _ _ _ _ HI.out.2.2.2.1
      have HA := Aside0.mk (fun W (h : Mks S w W) => markAttrS_calls Aa x.attrs.length ca K5 W (HP.out.2.1.marked h) (by omega) (by omega))
      go_wp2_with fail
      refine (HA.out _ HM5.out).mono ?_
      rintro e w6 ⟨rfl, hm6⟩
      clear l5
      have HM6 := Aside0.mk (HM5.out.trans hm6)
      obtain ⟨K6, hK6⟩ : ∃ K6, K6 = K5 + x.attrs.length * 4 := ⟨_, rfl⟩
      rw [← hK6]
      have b6 : K5 + x.attrs.length * 4 ≤ K6 ∧ K6 ≤ K5 + x.attrs.length * 4 := by omega
      clear hK6
      have l6 := HM6.out.slice _ _ _ _ HI.out.2.2.2.2.1
      have HN := Aside0.mk (fun W (h : Mks S w W) => HX.out Ak ck K6 W (HP.out.2.2.marked h) (by omega) (by omega) (by omega))
      go_wp2_with fail
      refine (HN.out _ HM6.out).mono ?_
      rintro e w7 ⟨rfl, hm7⟩
      clear l6
      have HM7 := Aside0.mk (HM6.out.trans hm7)
      obtain ⟨K7, hK7⟩ : ∃ K7, K7 = K6 + mkL x.kids := ⟨_, rfl⟩
      rw [← hK7]
      have b7 : K6 + mkL x.kids ≤ K7 ∧ K7 ≤ K6 + mkL x.kids := by omega
      clear hK7
      have HT7 := Aside0.mk (fun W => HT.out K7 W (by omega) (by omega))
      go_wp2_with fail
      refine (HT7.out _).mono ?_
      rintro e w8 ⟨rfl, hb8⟩
      have s7 := Aside0.mk ((HI.out.2.1.marked HM7.out).marked (.of (S := S) hb8))
      obtain ⟨⟨u7, hu7, _⟩, hf7⟩ := s7.out
      have HM8 := Aside0.mk (Mks.puts (s := markB K7) HM7.out hb8 HI.out.2.1 hS)
      have hK70 : (K7 : Int) ≤ 2000000000 := by omega
      have hend := Aside0.mk (show K + 5 + mkN x = K7 + 1 by omega)
      clear hd9 hm5 hm6 hm7 hb8
      go_wp2
      go_roundg (gk - 1)
      case measure => omega
      case rel => exact ⟨j + 1, by rw [hKn.out, hend.out]; go_num, by go_num, by omega, HM8.out⟩
    · have hfin := Aside0.mk (show k + mkL (xs.take j) = k + mkL xs by rw [List.take_of_length_le (by omega)])
      clear HS
      go_wp2
      go_ret
      exact ⟨by rw [← hfin.out]; rfl, hm.out⟩
theorem markNode_calls {S : Nat → Prop} (n : Nd) (s : Sh) (k : Nat) (w : World) (hs : ShK w S n s) (hk : 1 ≤ k) (hk2 : k + mkN n ≤ 1000000000) :
    Calls Tryz.prog 32 #[.agg #[.int .i64 n.kind, .string n.pre, .string n.loc, .string n.uri, .slice s.Ad n.decls.length s.cd, .slice s.Aa n.attrs.length s.ca, .slice s.Ak n.kids.length s.ck, .string n.text], .int .i64 (k : Nat)] w fun e w' => e = .returned (.int .i64 ((k + mkN n : Nat) : Int)) ∧ Mks S w w' := by
  obtain ⟨Ad, cd, Aa, ca, Ak, ck⟩ := s
  obtain ⟨W, hW, HB, hsz, HG⟩ := boxed w #[.int .i64 n.kind, .string n.pre, .string n.loc, .string n.uri, .slice Ad n.decls.length cd, .slice Aa n.attrs.length ca, .slice Ak n.kids.length ck, .string n.text] 28
  have HM0 := Aside0.mk (Mks.of (S := S) HB)
  have HP := Aside0.mk (hs.marked HM0.out).parts
  have hne : n.decls.length * 2 + n.attrs.length * 4 + mkL n.kids ≤ mkN n ∧ mkN n ≤ n.decls.length * 2 + n.attrs.length * 4 + mkL n.kids := by have := mkN_eq n; omega
  have hl9 : n.kids.length ≤ mkL n.kids := by
    have : ∀ l : List Nd, l.length ≤ mkL l := fun l => by
      induction l with
      | nil => simp [mkL]
      | cons y l ih => simp only [mkL, List.length_cons]; omega
    exact this _
  simp only at HP ⊢
  obtain ⟨c0, c1, c2, c3, c4, c5, c6, c7⟩ := box_cells HG
  have HW := Aside0.mk hW
  have HD := Aside0.mk (markDeclS_calls Ad n.decls.length cd k W HP.out.1 hk (by omega))
  have l5 := HM0.out
  clear hs hW HG HB
  go_enter Tryz.func32, Tryz.ntmps32
  go_upto_region 1 with fail
  rw [← HW.out]
  go_wp2_with fail
  refine (HD.out).mono ?_
  rintro e w5 ⟨rfl, hm5⟩
  have l5 := hm5.slice _ _ _ _ c5
  have HK6 := Aside0.mk (fun W2 (h : Mks S W W2) => h.slice _ _ _ _ c6)
  clear c0 c1 c2 c3 c4 c5 c6 c7
  obtain ⟨K5, hK5⟩ : ∃ K5, K5 = k + n.decls.length * 2 := ⟨_, rfl⟩
  rw [← hK5]
  have b5 : k + n.decls.length * 2 ≤ K5 ∧ K5 ≤ k + n.decls.length * 2 := by omega
  clear hK5
  have HA := Aside0.mk (markAttrS_calls Aa n.attrs.length ca K5 w5 (HP.out.2.1.marked hm5) (by omega) (by omega))
  go_wp2_with fail
  refine (HA.out).mono ?_
  rintro e w6 ⟨rfl, hm6⟩
  clear l5
  have hm56 := hm5.trans hm6
  have l6 := HK6.out _ hm56
  obtain ⟨K6, hK6⟩ : ∃ K6, K6 = K5 + n.attrs.length * 4 := ⟨_, rfl⟩
  rw [← hK6]
  have b6 : K5 + n.attrs.length * 4 ≤ K6 ∧ K6 ≤ K5 + n.attrs.length * 4 := by omega
  clear hK6
  have HN := Aside0.mk (markNodeS_calls (cntL n.kids) n.kids Ak ck K6 w6 (Nat.le_refl _) (HP.out.2.2.marked hm56) (by omega) (by omega) (by omega))
  go_wp2_with fail
  refine (HN.out).mono ?_
  rintro e w7 ⟨rfl, hm7⟩
  have hend := Aside0.mk (show k + mkN n = K6 + mkL n.kids by omega)
  clear l6 hne
  go_wp2
  go_ret
  exact ⟨by rw [hend.out]; rfl, HM0.out.trans (hm56.trans hm7)⟩
end Go.Proofs.YtpcklgkpjmmakaaGreatDoor
end
