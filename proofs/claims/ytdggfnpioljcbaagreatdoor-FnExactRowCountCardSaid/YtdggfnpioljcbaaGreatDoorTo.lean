/- The laws' copies of trees: toDecl .. toNode. -/
import Derived.Test.YtdggfnpioljcbaaGreatDoorSz
import Derived.Test.YtdggfnpioljcbaaGreatDoorMoved
import Derived.Test.YtdggfnpioljcbaaGreatDoorFill
namespace Go.Proofs.YtdggfnpioljcbaaGreatDoor
open Go.RowKit
set_option linter.unusedVariables false
set_option linter.unusedSimpArgs false
set_option maxRecDepth 20000
set_option maxHeartbeats 1000000

theorem toDecl_calls (d : Dcl) (w : World) :
    Calls Tryz.prog 145 #[.agg #[.string d.pre, .string d.uri]] w fun e w' => e = .returned (.agg #[.string d.pre, .string d.uri]) ∧ Below w.heap.size w w' := by
  go_enter Tryz.func145, Tryz.ntmps145
  go_wp2
  refine bodyPost_ret (v := .agg #[.string d.pre, .string d.uri]) ?hres rfl ⟨rfl, ?hb⟩
  case hres => simp [results, Tryz.results145, go_sem]
  case hb => repeat (first | exact Below.refl _ _ | apply below_alloc | apply below_drew | (refine below_setNew ?_ (by omega)))

theorem toAttr_calls (d : Atr) (w : World) :
    Calls Tryz.prog 146 #[.agg #[.string d.pre, .string d.loc, .string d.uri, .string d.val]] w fun e w' => e = .returned (.agg #[.string d.pre, .string d.loc, .string d.uri, .string d.val]) ∧ Below w.heap.size w w' := by
  go_enter Tryz.func146, Tryz.ntmps146
  go_wp2
  refine bodyPost_ret (v := .agg #[.string d.pre, .string d.loc, .string d.uri, .string d.val]) ?hres rfl ⟨rfl, ?hb⟩
  case hres => simp [results, Tryz.results146, go_sem]
  case hb => repeat (first | exact Below.refl _ _ | apply below_alloc | apply below_drew | (refine below_setNew ?_ (by omega)))

theorem Tryz.info_Decl : (Tryz.prog.info? 171).map (fun i => (i.zero, i.size, i.bytes)) = some (some (.agg #[.string ⟨#[]⟩, .string ⟨#[]⟩]), 2, 32) := by kernel_rfl
theorem toDeclS_calls {ok : Nat → Prop} (A : Option Addr) (xs : List Dcl) (c : Nat) (w : World) (hr : Row Kd.dcl w ok A xs) (hn : xs.length ≤ 1048576) :
    Calls Tryz.prog 73 #[.slice A xs.length c] w fun e w' => (∃ A' c', e = .returned (.slice A' xs.length c') ∧ xs.length ≤ c' ∧ Row Kd.dcl w' (fun k => w.heap.size ≤ k) A' xs) ∧ Below w.heap.size w w' := by
  obtain ⟨i, hi, hz0, hz1, hz2⟩ := info_parts Tryz.info_Decl
  go_enter Tryz.func73, Tryz.ntmps73
  go_wp2_with (at_make; refine wpList_make_full _ rfl _ _ 29 rfl w.heap.size 171 i (.agg #[.string ⟨#[]⟩, .string ⟨#[]⟩]) 2 Tryz.underlying29 hi hz0 hz1 _ _ _ _ xs.length rfl rfl rfl rfl (by rw [hz2]; omega) (by unfold maxLen; omega) (Nat.le_refl _) ?_; intro w1 hown hgrow)
  go_loopg [4] xs.length (fun k i wr => ∃ (j : Nat) (cells : List Value), i = .int .i64 j ∧ j + k = xs.length ∧ wr.ownsRow w.heap.size 171 2 (.slice (some ⟨w.heap.size, 0, none⟩) xs.length xs.length) xs.length cells ∧ Aside (FillN Kd.dcl wr (fun k => w.heap.size < k) xs j cells) ∧ Below w.heap.size w wr)
  case atStart => exact ⟨0, _, rfl, by omega, hown, FillN.start _ _ _ hown.1, (Below.refl _ _).grown hgrow (Nat.le_refl _) (by simp)⟩
  case round =>
    obtain ⟨j, cells, rfl, hk, hown1, hf, hb⟩ := hrel
    clear hown hgrow
    by_cases hlt : j < xs.length
    · obtain ⟨b, o, rfl, hbl, d0, d1⟩ := dcl_at (hr.below hb) j hlt
      clear hr
      go_wp2_with fail
      refine (toDecl_calls (xs[j]'hlt) wr).mono ?_
      rintro e w2 ⟨rfl, hb2⟩
      have hown2 := own_below hown1 hb2
      have hst := own_stored [.string (xs[j]'hlt).pre, .string (xs[j]'hlt).uri] (j * 2) _ _ hown2
      have hf2 := ((hf.out.agree (w1 := w2) (fun k _ hlt => hb2.block k hlt)).agree (w1 := w2.setCells w.heap.size (j * 2) [.string (xs[j]'hlt).pre, .string (xs[j]'hlt).uri]) (fun k hk _ => setCells_same _ _ _ _ _ (by omega))).step hlt (vs := [.string (xs[j]'hlt).pre, .string (xs[j]'hlt).uri]) rfl
      have hb3 := setCells_below w.heap.size [.string (xs[j]'hlt).pre, .string (xs[j]'hlt).uri] (j * 2) w w2 (below_then hb hb2) (Nat.le_refl _)
      have hown1 := hown2
      have q0 := fill_cellN hown1 (i := j * 2) (by omega)
      obtain ⟨⟨u0, hu0⟩, hfz0⟩ := q0
      have q1 := fill_cellN hown1 (i := j * 2 + 1) (by omega)
      obtain ⟨⟨u1, hu1⟩, hfz1⟩ := q1
      have HS := Aside0.mk (And.intro hst (And.intro hf2 hb3))
      clear hst hf2 hb3 hown1 hown2 hf
      go_wp2
      go_roundg (gk - 1)
      case measure => omega
      case rel => exact ⟨j + 1, _, by go_num, by omega, HS.out.1, HS.out.2.1, HS.out.2.2⟩
    · have hf2 := hf.out.done (by omega)
      obtain ⟨_, _, he, hl, HO⟩ := (show Own Kd.dcl 171 wr w.heap.size (fun k => w.heap.size ≤ k) (.slice (some ⟨w.heap.size, 0, none⟩) xs.length xs.length) xs from ⟨cells, hown1, hf2.mono (fun _ h => Nat.le_of_lt h)⟩).row (ok' := fun k => w.heap.size ≤ k) (fun k hk => hk) (fun k hk => by cases hk; exact Nat.le_refl _)
      injection he with e1 _ e2
      subst e1 e2
      clear hf hf2 hown1
      go_wp2
      go_ret
      exact ⟨⟨_, _, rfl, Nat.le_refl _, HO⟩, hb⟩

theorem Tryz.info_Attr : (Tryz.prog.info? 173).map (fun i => (i.zero, i.size, i.bytes)) = some (some (.agg #[.string ⟨#[]⟩, .string ⟨#[]⟩, .string ⟨#[]⟩, .string ⟨#[]⟩]), 4, 64) := by kernel_rfl
theorem toAttrS_calls {ok : Nat → Prop} (A : Option Addr) (xs : List Atr) (c : Nat) (w : World) (hr : Row Kd.atr w ok A xs) (hn : xs.length ≤ 1048576) :
    Calls Tryz.prog 74 #[.slice A xs.length c] w fun e w' => (∃ A' c', e = .returned (.slice A' xs.length c') ∧ xs.length ≤ c' ∧ Row Kd.atr w' (fun k => w.heap.size ≤ k) A' xs) ∧ Below w.heap.size w w' := by
  obtain ⟨i, hi, hz0, hz1, hz2⟩ := info_parts Tryz.info_Attr
  go_enter Tryz.func74, Tryz.ntmps74
  go_wp2_with (at_make; refine wpList_make_full _ rfl _ _ 30 rfl w.heap.size 173 i (.agg #[.string ⟨#[]⟩, .string ⟨#[]⟩, .string ⟨#[]⟩, .string ⟨#[]⟩]) 4 Tryz.underlying30 hi hz0 hz1 _ _ _ _ xs.length rfl rfl rfl rfl (by rw [hz2]; omega) (by unfold maxLen; omega) (Nat.le_refl _) ?_; intro w1 hown hgrow)
  go_loopg [4] xs.length (fun k i wr => ∃ (j : Nat) (cells : List Value), i = .int .i64 j ∧ j + k = xs.length ∧ wr.ownsRow w.heap.size 173 4 (.slice (some ⟨w.heap.size, 0, none⟩) xs.length xs.length) xs.length cells ∧ Aside (FillN Kd.atr wr (fun k => w.heap.size < k) xs j cells) ∧ Below w.heap.size w wr)
  case atStart => exact ⟨0, _, rfl, by omega, hown, FillN.start _ _ _ hown.1, (Below.refl _ _).grown hgrow (Nat.le_refl _) (by simp)⟩
  case round =>
    obtain ⟨j, cells, rfl, hk, hown1, hf, hb⟩ := hrel
    clear hown hgrow
    by_cases hlt : j < xs.length
    · obtain ⟨b, o, rfl, hbl, d0, d1, d2, d3⟩ := atr_at (hr.below hb) j hlt
      clear hr
      go_wp2_with fail
      refine (toAttr_calls (xs[j]'hlt) wr).mono ?_
      rintro e w2 ⟨rfl, hb2⟩
      have hown2 := own_below hown1 hb2
      have hst := own_stored [.string (xs[j]'hlt).pre, .string (xs[j]'hlt).loc, .string (xs[j]'hlt).uri, .string (xs[j]'hlt).val] (j * 4) _ _ hown2
      have hf2 := ((hf.out.agree (w1 := w2) (fun k _ hlt => hb2.block k hlt)).agree (w1 := w2.setCells w.heap.size (j * 4) [.string (xs[j]'hlt).pre, .string (xs[j]'hlt).loc, .string (xs[j]'hlt).uri, .string (xs[j]'hlt).val]) (fun k hk _ => setCells_same _ _ _ _ _ (by omega))).step hlt (vs := [.string (xs[j]'hlt).pre, .string (xs[j]'hlt).loc, .string (xs[j]'hlt).uri, .string (xs[j]'hlt).val]) rfl
      have hb3 := setCells_below w.heap.size [.string (xs[j]'hlt).pre, .string (xs[j]'hlt).loc, .string (xs[j]'hlt).uri, .string (xs[j]'hlt).val] (j * 4) w w2 (below_then hb hb2) (Nat.le_refl _)
      have hown1 := hown2
      have q0 := fill_cellN hown1 (i := j * 4) (by omega)
      obtain ⟨⟨u0, hu0⟩, hfz0⟩ := q0
      have q1 := fill_cellN hown1 (i := j * 4 + 1) (by omega)
      obtain ⟨⟨u1, hu1⟩, hfz1⟩ := q1
      have q2 := fill_cellN hown1 (i := j * 4 + 2) (by omega)
      obtain ⟨⟨u2, hu2⟩, hfz2⟩ := q2
      have q3 := fill_cellN hown1 (i := j * 4 + 3) (by omega)
      obtain ⟨⟨u3, hu3⟩, hfz3⟩ := q3
      have HS := Aside0.mk (And.intro hst (And.intro hf2 hb3))
      clear hst hf2 hb3 hown1 hown2 hf
      go_wp2
      go_roundg (gk - 1)
      case measure => omega
      case rel => exact ⟨j + 1, _, by go_num, by omega, HS.out.1, HS.out.2.1, HS.out.2.2⟩
    · have hf2 := hf.out.done (by omega)
      obtain ⟨_, _, he, hl, HO⟩ := (show Own Kd.atr 173 wr w.heap.size (fun k => w.heap.size ≤ k) (.slice (some ⟨w.heap.size, 0, none⟩) xs.length xs.length) xs from ⟨cells, hown1, hf2.mono (fun _ h => Nat.le_of_lt h)⟩).row (ok' := fun k => w.heap.size ≤ k) (fun k hk => hk) (fun k hk => by cases hk; exact Nat.le_refl _)
      injection he with e1 _ e2
      subst e1 e2
      clear hf hf2 hown1
      go_wp2
      go_ret
      exact ⟨⟨_, _, rfl, Nat.le_refl _, HO⟩, hb⟩


/-- A box, a result's block, and one that is being made. -/
structure Th (w W : World) (Ta Tc : TypeId) (a c : Array Value) : Prop where
  below : Below w.heap.size w W
  size : w.heap.size + 2 < W.heap.size
  g0 : W.heap[w.heap.size]? = some (.cells a Ta (0, 0))
  g1 : ∃ x0 x1 x2 x3 x4 x5 x6 x7, W.heap[w.heap.size + 1]? = some (.cells #[x0, x1, x2, x3, x4, x5, x6, x7] Tc (0, 0))
  g2 : W.heap[w.heap.size + 1 + 1]? = some (.cells c Tc (0, 0))
theorem alloc_size (w : World) (o : Obj) : (w.alloc o).heap.size = w.heap.size + 1 := Array.size_push _
theorem alloc_at (w : World) (o : Obj) : (w.alloc o).heap[w.heap.size]? = some o := Array.getElem?_push_size
theorem alloc_old (w : World) (o : Obj) (k : Nat) (h : k < w.heap.size) : (w.alloc o).heap[k]? = w.heap[k]? := (below_alloc (Below.refl w.heap.size w) o).block k h
theorem Th.start (w : World) (Ta Tc : TypeId) (a c : Array Value) (x0 x1 x2 x3 x4 x5 x6 x7 : Value) : Th w (((w.alloc (.cells a Ta)).alloc (.cells #[x0, x1, x2, x3, x4, x5, x6, x7] Tc)).alloc (.cells c Tc)) Ta Tc a c := by
  have s1 := alloc_size w (.cells a Ta)
  have s2 := alloc_size (w.alloc (.cells a Ta)) (.cells #[x0, x1, x2, x3, x4, x5, x6, x7] Tc)
  have s3 := alloc_size ((w.alloc (.cells a Ta)).alloc (.cells #[x0, x1, x2, x3, x4, x5, x6, x7] Tc)) (.cells c Tc)
  refine ⟨below_alloc (below_alloc (below_alloc (Below.refl _ _) _) _) _, by omega, ?_, ⟨x0, x1, x2, x3, x4, x5, x6, x7, ?_⟩, ?_⟩
  · rw [alloc_old _ _ _ (by omega), alloc_old _ _ _ (by omega)]; exact alloc_at _ _
  · rw [alloc_old _ _ _ (by omega), ← s1]; exact alloc_at _ _
  · rw [show w.heap.size + 1 + 1 = ((w.alloc (.cells a Ta)).alloc (.cells #[x0, x1, x2, x3, x4, x5, x6, x7] Tc)).heap.size by omega]; exact alloc_at _ _
theorem Th.next {w W W1 : World} {Ta Tc : TypeId} {a c : Array Value} (h : Th w W Ta Tc a c) (hb : Below W.heap.size W W1) : Th w W1 Ta Tc a c := by
  have := h.size
  obtain ⟨x0, x1, x2, x3, x4, x5, x6, x7, hx⟩ := h.g1
  exact ⟨below_then h.below hb, Nat.lt_of_lt_of_le h.size hb.size, (hb.block _ (by omega)).trans h.g0, ⟨x0, x1, x2, x3, x4, x5, x6, x7, (hb.block _ (by omega)).trans hx⟩, (hb.block _ (by omega)).trans h.g2⟩
theorem Th.set {w W : World} {Ta Tc : TypeId} {a c : Array Value} (h : Th w W Ta Tc a c) (j : Nat) (v : Value) : Th w (W.setCell ⟨w.heap.size + 1 + 1, j, none⟩ v) Ta Tc a (c.setIfInBounds j v) := by
  obtain ⟨x0, x1, x2, x3, x4, x5, x6, x7, hx⟩ := h.g1
  exact ⟨below_setNew h.below (by omega), by have := h.size; simpa [World.setCell] using this, (heap_setCell_other W _ _ v (by show w.heap.size ≠ w.heap.size + 1 + 1; omega)).trans h.g0, ⟨x0, x1, x2, x3, x4, x5, x6, x7, (heap_setCell_other W _ _ v (by show w.heap.size + 1 ≠ w.heap.size + 1 + 1; omega)).trans hx⟩, heap_setCell_same W _ j c Tc v h.g2⟩
/-- What toNode does. -/
def ToN (n : Nd) (W : World) (e : Ending) (w' : World) : Prop := (∃ s', e = .returned (.agg #[.int .i64 n.kind, .string n.pre, .string n.loc, .string n.uri, .slice s'.Ad n.decls.length s'.cd, .slice s'.Aa n.attrs.length s'.ca, .slice s'.Ak n.kids.length s'.ck, .string n.text]) ∧ NodeIs w' (fun k => W.heap.size ≤ k) n s') ∧ Below W.heap.size W w'
theorem Tryz.info_Node : (Tryz.prog.info? 33).map (fun i => (i.zero, i.size, i.bytes)) = some (some (.agg #[.int .i64 0, .string ⟨#[]⟩, .string ⟨#[]⟩, .string ⟨#[]⟩, .slice none 0 0, .slice none 0 0, .slice none 0 0, .string ⟨#[]⟩]), 8, 144) := by kernel_rfl
theorem toNodeS_calls {ok : Nat → Prop} (A : Option Addr) (xs : List Nd) (c : Nat) (w : World) (hr : Row Kd.node w ok A xs) (hn : xs.length ≤ 1048576)
    (ih : ∀ n ∈ xs, ∀ (s : Sh) (W : World), NodeIs W ok n s → Calls Tryz.prog 16 #[.agg #[.int .i64 n.kind, .string n.pre, .string n.loc, .string n.uri, .slice s.Ad n.decls.length s.cd, .slice s.Aa n.attrs.length s.ca, .slice s.Ak n.kids.length s.ck, .string n.text]] W (ToN n W)) :
    Calls Tryz.prog 75 #[.slice A xs.length c] w fun e w' => (∃ A' c', e = .returned (.slice A' xs.length c') ∧ xs.length ≤ c' ∧ Row Kd.node w' (fun k => w.heap.size ≤ k) A' xs) ∧ Below w.heap.size w w' := by
  obtain ⟨i, hi, hz0, hz1, hz2⟩ := info_parts Tryz.info_Node
  have ih := Aside0.mk ih
  go_enter Tryz.func75, Tryz.ntmps75
  go_wp2_with (at_make; refine wpList_make_full _ rfl _ _ 31 rfl w.heap.size 33 i (.agg #[.int .i64 0, .string ⟨#[]⟩, .string ⟨#[]⟩, .string ⟨#[]⟩, .slice none 0 0, .slice none 0 0, .slice none 0 0, .string ⟨#[]⟩]) 8 Tryz.underlying31 hi hz0 hz1 _ _ _ _ xs.length rfl rfl rfl rfl (by rw [hz2]; omega) (by unfold maxLen; omega) (Nat.le_refl _) ?_; intro w1 hown hgrow)
  go_loopg [4] xs.length (fun k i wr => ∃ (j : Nat) (cells : List Value), i = .int .i64 j ∧ j + k = xs.length ∧ wr.ownsRow w.heap.size 33 8 (.slice (some ⟨w.heap.size, 0, none⟩) xs.length xs.length) xs.length cells ∧ Aside (FillN Kd.node wr (fun k => w.heap.size < k) xs j cells) ∧ Below w.heap.size w wr)
  case atStart => exact ⟨0, _, rfl, by omega, hown, FillN.start _ _ _ hown.1, (Below.refl _ _).grown hgrow (Nat.le_refl _) (by simp)⟩
  case round =>
    obtain ⟨j, cells, rfl, hk, hown1, hf, hb⟩ := hrel
    clear hown hgrow
    by_cases hlt : j < xs.length
    · obtain ⟨b, o, s', rfl, hbl, hs', d0, d1, d2, d3, d4, d5, d6, d7⟩ := node_at (hr.below hb) j hlt
      clear hr
      have hgs := (hown1.lt _ rfl).2
      go_wp2_with fail
      refine (ih.out _ (List.getElem_mem hlt) s' wr hs').mono ?_
      rintro e w2 ⟨⟨s2, rfl, hs2⟩, hb2⟩
      have hown2 := own_below hown1 hb2
      have hst := own_stored [.int .i64 (xs[j]'hlt).kind, .string (xs[j]'hlt).pre, .string (xs[j]'hlt).loc, .string (xs[j]'hlt).uri, .slice s2.Ad (xs[j]'hlt).decls.length s2.cd, .slice s2.Aa (xs[j]'hlt).attrs.length s2.ca, .slice s2.Ak (xs[j]'hlt).kids.length s2.ck, .string (xs[j]'hlt).text] (j * 8) _ _ hown2
      have hK : Kd.node.K w2 (fun k => w.heap.size < k) (xs[j]'hlt) [.int .i64 (xs[j]'hlt).kind, .string (xs[j]'hlt).pre, .string (xs[j]'hlt).loc, .string (xs[j]'hlt).uri, .slice s2.Ad (xs[j]'hlt).decls.length s2.cd, .slice s2.Aa (xs[j]'hlt).attrs.length s2.ca, .slice s2.Ak (xs[j]'hlt).kids.length s2.ck, .string (xs[j]'hlt).text] := (hs2.mono (ok' := fun k => w.heap.size < k) (fun k hk => Nat.lt_of_lt_of_le hgs hk)).k
      have hf2 := ((hf.out.agree (w1 := w2) (fun k _ hlt => hb2.block k hlt)).agree (w1 := w2.setCells w.heap.size (j * 8) [.int .i64 (xs[j]'hlt).kind, .string (xs[j]'hlt).pre, .string (xs[j]'hlt).loc, .string (xs[j]'hlt).uri, .slice s2.Ad (xs[j]'hlt).decls.length s2.cd, .slice s2.Aa (xs[j]'hlt).attrs.length s2.ca, .slice s2.Ak (xs[j]'hlt).kids.length s2.ck, .string (xs[j]'hlt).text]) (fun k hk _ => setCells_same _ _ _ _ _ (by omega))).step hlt (vs := [.int .i64 (xs[j]'hlt).kind, .string (xs[j]'hlt).pre, .string (xs[j]'hlt).loc, .string (xs[j]'hlt).uri, .slice s2.Ad (xs[j]'hlt).decls.length s2.cd, .slice s2.Aa (xs[j]'hlt).attrs.length s2.ca, .slice s2.Ak (xs[j]'hlt).kids.length s2.ck, .string (xs[j]'hlt).text]) (Kd.node.agree (fun k hk _ => setCells_same _ _ _ _ _ (by omega)) hK)
      have hb3 := setCells_below w.heap.size [.int .i64 (xs[j]'hlt).kind, .string (xs[j]'hlt).pre, .string (xs[j]'hlt).loc, .string (xs[j]'hlt).uri, .slice s2.Ad (xs[j]'hlt).decls.length s2.cd, .slice s2.Aa (xs[j]'hlt).attrs.length s2.ca, .slice s2.Ak (xs[j]'hlt).kids.length s2.ck, .string (xs[j]'hlt).text] (j * 8) w w2 (below_then hb hb2) (Nat.le_refl _)
      have hown1 := hown2
      have q0 := fill_cellN hown1 (i := j * 8) (by omega)
      obtain ⟨⟨u0, hu0⟩, hfz0⟩ := q0
      have q1 := fill_cellN hown1 (i := j * 8 + 1) (by omega)
      obtain ⟨⟨u1, hu1⟩, hfz1⟩ := q1
      have q2 := fill_cellN hown1 (i := j * 8 + 2) (by omega)
      obtain ⟨⟨u2, hu2⟩, hfz2⟩ := q2
      have q3 := fill_cellN hown1 (i := j * 8 + 3) (by omega)
      obtain ⟨⟨u3, hu3⟩, hfz3⟩ := q3
      have q4 := fill_cellN hown1 (i := j * 8 + 4) (by omega)
      obtain ⟨⟨u4, hu4⟩, hfz4⟩ := q4
      have q5 := fill_cellN hown1 (i := j * 8 + 5) (by omega)
      obtain ⟨⟨u5, hu5⟩, hfz5⟩ := q5
      have q6 := fill_cellN hown1 (i := j * 8 + 6) (by omega)
      obtain ⟨⟨u6, hu6⟩, hfz6⟩ := q6
      have q7 := fill_cellN hown1 (i := j * 8 + 7) (by omega)
      obtain ⟨⟨u7, hu7⟩, hfz7⟩ := q7
      have HS := Aside0.mk (And.intro hst (And.intro hf2 hb3))
      clear hst hf2 hb3 hown1 hown2 hf hs2 hs' hK d0 d1 d2 d3 d4 d5 d6 d7
      go_wp2
      go_roundg (gk - 1)
      case measure => omega
      case rel => exact ⟨j + 1, _, by go_num, by omega, HS.out.1, HS.out.2.1, HS.out.2.2⟩
    · have hf2 := hf.out.done (by omega)
      obtain ⟨_, _, he, hl, HO⟩ := (show Own Kd.node 33 wr w.heap.size (fun k => w.heap.size ≤ k) (.slice (some ⟨w.heap.size, 0, none⟩) xs.length xs.length) xs from ⟨cells, hown1, hf2.mono (fun _ h => Nat.le_of_lt h)⟩).row (ok' := fun k => w.heap.size ≤ k) (fun k hk => hk) (fun k hk => by cases hk; exact Nat.le_refl _)
      injection he with e1 _ e2
      subst e1 e2
      clear hf hf2 hown1
      go_wp2
      go_ret
      exact ⟨⟨_, _, rfl, Nat.le_refl _, HO⟩, hb⟩


theorem toNode_calls : ∀ (N : Nat) (n : Nd) (s : Sh) (w : World) (ok : Nat → Prop), cnt n ≤ N → wt n ≤ 1048576 → NodeIs w ok n s →
    Calls Tryz.prog 16 #[.agg #[.int .i64 n.kind, .string n.pre, .string n.loc, .string n.uri, .slice s.Ad n.decls.length s.cd, .slice s.Aa n.attrs.length s.ca, .slice s.Ak n.kids.length s.ck, .string n.text]] w (ToN n w) := by
  intro N
  induction N with
  | zero => intro n s w ok h0; rw [cnt_eq] at h0; omega
  | succ N ih =>
  rintro n ⟨Ad, cd, Aa, ca, Ak, ck⟩ w ok hN hwt hn
  have hw := wt_eq n
  rw [wtL_eq] at hw
  have rowd : Row Kd.dcl w ok Ad n.decls := hn.decls
  have rowa : Row Kd.atr w ok Aa n.attrs := hn.attrs
  have rowk : Row Kd.node w ok Ak n.kids := hn.kids
  have IH := Aside0.mk (show ∀ k ∈ n.kids, ∀ (s : Sh) (W : World), NodeIs W ok k s → Calls Tryz.prog 16 #[.agg #[.int .i64 k.kind, .string k.pre, .string k.loc, .string k.uri, .slice s.Ad k.decls.length s.cd, .slice s.Aa k.attrs.length s.ca, .slice s.Ak k.kids.length s.ck, .string k.text]] W (ToN k W) from fun k hk s W a => by
    have := sumOf_mem wt _ _ hk
    obtain ⟨i, hi, rfl⟩ := List.getElem_of_mem hk
    exact ih _ s W ok (by have := cnt_kid hi; omega) (by omega) a)
  have l1 : n.decls.length ≤ 1048576 := by omega
  have l2 : n.attrs.length ≤ 1048576 := by omega
  have l3 : n.kids.length ≤ 1048576 := by omega
  clear hn ih hN hwt hw
  simp only
  go_enter Tryz.func16, Tryz.ntmps16
  go_upto_region 6 with fail
  obtain ⟨W0, hW0⟩ : ∃ W0, W0 = ((w.alloc (.cells #[.int .i64 n.kind, .string n.pre, .string n.loc, .string n.uri, .slice Ad n.decls.length cd, .slice Aa n.attrs.length ca, .slice Ak n.kids.length ck, .string n.text] 26)).alloc (.cells #[.int .i64 0, .string ⟨#[]⟩, .string ⟨#[]⟩, .string ⟨#[]⟩, .slice none 0 0, .slice none 0 0, .slice none 0 0, .string ⟨#[]⟩] 33)).alloc (.cells #[.int .i64 n.kind, .string n.pre, .string n.loc, .string n.uri, .slice none 0 0, .slice none 0 0, .slice none 0 0, .string ⟨#[]⟩] 33) := ⟨_, rfl⟩
  have T0 : Th w W0 26 33 #[.int .i64 n.kind, .string n.pre, .string n.loc, .string n.uri, .slice Ad n.decls.length cd, .slice Aa n.attrs.length ca, .slice Ak n.kids.length ck, .string n.text] #[.int .i64 n.kind, .string n.pre, .string n.loc, .string n.uri, .slice none 0 0, .slice none 0 0, .slice none 0 0, .string ⟨#[]⟩] := by rw [hW0]; exact Th.start _ _ _ _ _ _ _ _ _ _ _ _ _
  rw [← hW0]
  clear hW0
  -- decls
  obtain ⟨_, _, _, _, a4, a5, a6, a7⟩ := box_cells T0.g0
  go_wp2_with fail
  refine (toDeclS_calls Ad n.decls cd W0 (rowd.below T0.below) l1).mono ?_
  rintro e w1 ⟨⟨A1, c1, rfl, q1, r1⟩, hb1⟩
  have U1 := T0.next hb1
  clear a4 a5 a6 a7
  have f1 := frozen_of_row w1 _ 4 _ _ U1.g2
  have z1 := cell_of_row w1 _ 4 _ _ _ U1.g2
  simp only [List.getElem?_toArray, List.getElem?_cons_zero, List.getElem?_cons_succ] at z1
  go_upto_region 7 with fail
  obtain ⟨W1, hW1⟩ : ∃ W1, W1 = w1.setCell ⟨w.heap.size + 1 + 1, 4, none⟩ (.slice A1 n.decls.length c1) := ⟨_, rfl⟩
  have T1 : Th w W1 26 33 #[.int .i64 n.kind, .string n.pre, .string n.loc, .string n.uri, .slice Ad n.decls.length cd, .slice Aa n.attrs.length ca, .slice Ak n.kids.length ck, .string n.text] #[.int .i64 n.kind, .string n.pre, .string n.loc, .string n.uri, .slice A1 n.decls.length c1, .slice none 0 0, .slice none 0 0, .string ⟨#[]⟩] := by rw [hW1]; exact U1.set 4 _
  have R1 : Row Kd.dcl W1 (fun k => w.heap.size + 2 < k) A1 n.decls := by
    rw [hW1]
    exact (r1.mono (ok' := fun k => w.heap.size + 2 < k) (fun k hk => by have := T0.size; omega)).set (fun k hk => by show k ≠ w.heap.size + 1 + 1; omega)
  rw [← hW1]
  clear hW1 f1 z1 U1 r1
  -- attrs
  obtain ⟨_, _, _, _, a4, a5, a6, a7⟩ := box_cells T1.g0
  go_wp2_with fail
  refine (toAttrS_calls Aa n.attrs ca W1 (rowa.below T1.below) l2).mono ?_
  rintro e w2 ⟨⟨A2, c2, rfl, q2, r2⟩, hb2⟩
  have U2 := T1.next hb2
  clear a4 a5 a6 a7
  have f2 := frozen_of_row w2 _ 5 _ _ U2.g2
  have z2 := cell_of_row w2 _ 5 _ _ _ U2.g2
  simp only [List.getElem?_toArray, List.getElem?_cons_zero, List.getElem?_cons_succ] at z2
  go_upto_region 8 with fail
  obtain ⟨W2, hW2⟩ : ∃ W2, W2 = w2.setCell ⟨w.heap.size + 1 + 1, 5, none⟩ (.slice A2 n.attrs.length c2) := ⟨_, rfl⟩
  have T2 : Th w W2 26 33 #[.int .i64 n.kind, .string n.pre, .string n.loc, .string n.uri, .slice Ad n.decls.length cd, .slice Aa n.attrs.length ca, .slice Ak n.kids.length ck, .string n.text] #[.int .i64 n.kind, .string n.pre, .string n.loc, .string n.uri, .slice A1 n.decls.length c1, .slice A2 n.attrs.length c2, .slice none 0 0, .string ⟨#[]⟩] := by rw [hW2]; exact U2.set 5 _
  have R2 : Row Kd.atr W2 (fun k => w.heap.size + 2 < k) A2 n.attrs := by
    rw [hW2]
    exact (r2.mono (ok' := fun k => w.heap.size + 2 < k) (fun k hk => by have := T1.size; omega)).set (fun k hk => by show k ≠ w.heap.size + 1 + 1; omega)
  have R1 : Row Kd.dcl W2 (fun k => w.heap.size + 2 < k) A1 n.decls := by
    rw [hW2]
    exact (R1.below hb2).set (fun k hk => by show k ≠ w.heap.size + 1 + 1; omega)
  rw [← hW2]
  clear hW2 f2 z2 U2 r2
  -- kids
  obtain ⟨_, _, _, _, a4, a5, a6, a7⟩ := box_cells T2.g0
  go_wp2_with fail
  refine (toNodeS_calls Ak n.kids ck W2 (rowk.below T2.below) l3 IH.out).mono ?_
  rintro e w3 ⟨⟨A3, c3, rfl, q3, r3⟩, hb3⟩
  have U3 := T2.next hb3
  clear a4 a5 a6 a7
  have f3 := frozen_of_row w3 _ 6 _ _ U3.g2
  have z3 := cell_of_row w3 _ 6 _ _ _ U3.g2
  simp only [List.getElem?_toArray, List.getElem?_cons_zero, List.getElem?_cons_succ] at z3
  go_upto_region 9 with fail
  obtain ⟨W3, hW3⟩ : ∃ W3, W3 = w3.setCell ⟨w.heap.size + 1 + 1, 6, none⟩ (.slice A3 n.kids.length c3) := ⟨_, rfl⟩
  have T3 : Th w W3 26 33 #[.int .i64 n.kind, .string n.pre, .string n.loc, .string n.uri, .slice Ad n.decls.length cd, .slice Aa n.attrs.length ca, .slice Ak n.kids.length ck, .string n.text] #[.int .i64 n.kind, .string n.pre, .string n.loc, .string n.uri, .slice A1 n.decls.length c1, .slice A2 n.attrs.length c2, .slice A3 n.kids.length c3, .string ⟨#[]⟩] := by rw [hW3]; exact U3.set 6 _
  have R3 : Row Kd.node W3 (fun k => w.heap.size + 2 < k) A3 n.kids := by
    rw [hW3]
    exact (r3.mono (ok' := fun k => w.heap.size + 2 < k) (fun k hk => by have := T2.size; omega)).set (fun k hk => by show k ≠ w.heap.size + 1 + 1; omega)
  have R1 : Row Kd.dcl W3 (fun k => w.heap.size + 2 < k) A1 n.decls := by
    rw [hW3]
    exact (R1.below hb3).set (fun k hk => by show k ≠ w.heap.size + 1 + 1; omega)
  have R2 : Row Kd.atr W3 (fun k => w.heap.size + 2 < k) A2 n.attrs := by
    rw [hW3]
    exact (R2.below hb3).set (fun k hk => by show k ≠ w.heap.size + 1 + 1; omega)
  rw [← hW3]
  clear hW3 f3 z3 U3 r3
  obtain ⟨_, _, _, _, a4, a5, a6, a7⟩ := box_cells T3.g0
  obtain ⟨b0, b1, b2, b3, b4, b5, b6, b7⟩ := box_cells T3.g2
  obtain ⟨x0, x1, x2, x3, x4, x5, x6, x7, hx⟩ := T3.g1
  obtain ⟨y0, y1, y2, y3, y4, y5, y6, y7⟩ := box_cells hx
  have f7 := frozen_of_row W3 _ 7 _ _ T3.g2
  have g0 := frozen_of_row W3 _ 0 _ _ hx
  have g1 := frozen_of_row W3 _ 1 _ _ hx
  have g2 := frozen_of_row W3 _ 2 _ _ hx
  have g3 := frozen_of_row W3 _ 3 _ _ hx
  have g4 := frozen_of_row W3 _ 4 _ _ hx
  have g5 := frozen_of_row W3 _ 5 _ _ hx
  have g6 := frozen_of_row W3 _ 6 _ _ hx
  have g7 := frozen_of_row W3 _ 7 _ _ hx
  have HX := Aside0.mk hx
  clear hx
  go_wp2
  obtain ⟨X, hX⟩ : ∃ X, X = W3.setCell ⟨w.heap.size + 1 + 1, 7, none⟩ (.string n.text) := ⟨_, rfl⟩
  obtain ⟨Wf, hWf⟩ : ∃ Wf, Wf = X.setCells (w.heap.size + 1) 0 [.int .i64 n.kind, .string n.pre, .string n.loc, .string n.uri, .slice A1 n.decls.length c1, .slice A2 n.attrs.length c2, .slice A3 n.kids.length c3, .string n.text] := ⟨_, rfl⟩
  have hxX : X.heap[w.heap.size + 1]? = some (.cells #[x0, x1, x2, x3, x4, x5, x6, x7] 33 (0, 0)) := by rw [hX]; exact (heap_setCell_other W3 _ _ _ (by show w.heap.size + 1 ≠ w.heap.size + 1 + 1; omega)).trans HX.out
  have hf7 : Wf.heap[w.heap.size + 1]? = some (.cells #[.int .i64 n.kind, .string n.pre, .string n.loc, .string n.uri, .slice A1 n.decls.length c1, .slice A2 n.attrs.length c2, .slice A3 n.kids.length c3, .string n.text] 33 (0, 0)) := by
    rw [hWf]; exact set8 hxX _ _ _ _ _ _ _ _
  have hs : ∀ k, w.heap.size + 2 < k → k < W3.heap.size → Wf.heap[k]? = W3.heap[k]? := fun k hk _ => by
    rw [hWf, setCells_same _ _ _ _ _ (by omega), hX]
    exact heap_setCell_other W3 _ _ _ (by show k ≠ w.heap.size + 1 + 1; omega)
  have D1 := (R1.agree (w1 := Wf) hs).mono (ok' := fun k => w.heap.size ≤ k) (fun k hk => by omega)
  have D2 := (R2.agree (w1 := Wf) hs).mono (ok' := fun k => w.heap.size ≤ k) (fun k hk => by omega)
  have D3 := (R3.agree (w1 := Wf) hs).mono (ok' := fun k => w.heap.size ≤ k) (fun k hk => by omega)
  have HBf : Below w.heap.size w Wf := by
    rw [hWf]
    refine setCells_below _ _ _ _ _ ?_ (by omega)
    rw [hX]
    exact below_setNew T3.below (by omega)
  rw [← hX]
  have hWf' : Wf = ((((((((X.setCell ⟨w.heap.size + 1, 0, none⟩ (.int .i64 n.kind)).setCell ⟨w.heap.size + 1, 1, none⟩ (.string n.pre)).setCell ⟨w.heap.size + 1, 2, none⟩ (.string n.loc)).setCell ⟨w.heap.size + 1, 3, none⟩ (.string n.uri)).setCell ⟨w.heap.size + 1, 4, none⟩ (.slice A1 n.decls.length c1)).setCell ⟨w.heap.size + 1, 5, none⟩ (.slice A2 n.attrs.length c2)).setCell ⟨w.heap.size + 1, 6, none⟩ (.slice A3 n.kids.length c3)).setCell ⟨w.heap.size + 1, 7, none⟩ (.string n.text)) := hWf
  rw [← hWf']
  obtain ⟨p0, p1, p2, p3, p4, p5, p6, p7⟩ := box_cells hf7
  clear hf7 hWf hWf' hX hxX hs y0 y1 y2 y3 y4 y5 y6 y7 b0 b1 b2 b3 b4 b5 b6 b7 a4 a5 a6 a7
  refine bodyPost_ret (v := .agg #[.int .i64 n.kind, .string n.pre, .string n.loc, .string n.uri, .slice A1 n.decls.length c1, .slice A2 n.attrs.length c2, .slice A3 n.kids.length c3, .string n.text]) ?hres rfl ⟨⟨⟨A1, c1, A2, c2, A3, c3⟩, rfl, ⟨q1, D1, q2, D2, q3, D3⟩⟩, HBf⟩
  case hres => simp [results, Tryz.results16, go_sem, p0, p1, p2, p3, p4, p5, p6, p7]

end Go.Proofs.YtdggfnpioljcbaaGreatDoor
