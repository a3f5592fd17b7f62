/- The laws' copies of trees: toDecl .. toNode. -/
import Derived.Test.YtpcklgkpjmmakaaGreatDoorSz
import Derived.Test.YtpcklgkpjmmakaaGreatDoorBase
import Derived.Test.YtpcklgkpjmmakaaGreatDoorFill
namespace Go.Proofs.YtpcklgkpjmmakaaGreatDoor
open Go.RowKit
set_option linter.unusedVariables false
set_option linter.unusedSimpArgs false
set_option maxRecDepth 20000
set_option maxHeartbeats 1000000
theorem toDecl_calls (d : Dcl) (w : World) :
    Calls Tryz.prog 98 #[.agg #[.string d.pre, .string d.uri]] w fun e w' => e = .returned (.agg #[.string d.pre, .string d.uri]) ∧ Below w.heap.size w w' := by
  go_enter Tryz.func98, Tryz.ntmps98
  go_wp2
  refine bodyPost_ret (v := .agg #[.string d.pre, .string d.uri]) ?hres rfl ⟨rfl, ?hb⟩
  case hres => simp [results, Tryz.results98, go_sem]
  case hb => repeat (first | exact Below.refl _ _ | apply below_alloc | apply below_drew | (refine below_setNew ?_ (by omega)))
theorem toAttr_calls (d : Atr) (w : World) :
    Calls Tryz.prog 99 #[.agg #[.string d.pre, .string d.loc, .string d.uri, .string d.val]] w fun e w' => e = .returned (.agg #[.string d.pre, .string d.loc, .string d.uri, .string d.val]) ∧ Below w.heap.size w w' := by
  go_enter Tryz.func99, Tryz.ntmps99
  go_wp2
  refine bodyPost_ret (v := .agg #[.string d.pre, .string d.loc, .string d.uri, .string d.val]) ?hres rfl ⟨rfl, ?hb⟩
  case hres => simp [results, Tryz.results99, go_sem]
  case hb => repeat (first | exact Below.refl _ _ | apply below_alloc | apply below_drew | (refine below_setNew ?_ (by omega)))
theorem Tryz.info_Decl : (Tryz.prog.info? 122).map (fun i => (i.zero, i.size, i.bytes)) = some (some (.agg #[.string ⟨#[]⟩, .string ⟨#[]⟩]), 2, 32) := by kernel_rfl
theorem Tryz.info_Attr : (Tryz.prog.info? 114).map (fun i => (i.zero, i.size, i.bytes)) = some (some (.agg #[.string ⟨#[]⟩, .string ⟨#[]⟩, .string ⟨#[]⟩, .string ⟨#[]⟩]), 4, 64) := by kernel_rfl
/-- A box, a result's block, and one that is being made. -/
structure Th (w W : World) (Ta Tc : TypeId) (a c : Array Value) : Prop where
  below : Below w.heap.size w W
  size : w.heap.size + 2 < W.heap.size
  g0 : W.heap[w.heap.size]? = some (.cells a Ta (0, 0))
  g1 : ∃ x0 x1 x2 x3 x4 x5 x6 x7, W.heap[w.heap.size + 1]? = some (.cells #[x0, x1, x2, x3, x4, x5, x6, x7] Tc (0, 0))
  g2 : W.heap[w.heap.size + 1 + 1]? = some (.cells c Tc (0, 0))
theorem alloc_size (w : World) (o : Obj) : (w.alloc o).heap.size = w.heap.size + 1 := Array.size_push _
theorem alloc_at (w : World) (o : Obj) : (w.alloc o).heap[w.heap.size]? = some o := Array.getElem?_push_size
theorem alloc_old (w : World) (o : Obj) (k : Nat) (h : k < w.heap.size) : (w.alloc o).heap[k]? = w.heap[k]? := (below_alloc (Below.refl w.heap.size w) o).block k h
theorem Th.start (w : World) (Ta Tc : TypeId) (a c : Array Value) (x0 x1 x2 x3 x4 x5 x6 x7 : Value) : Th w (((w.alloc (.cells a Ta)).alloc (.cells #[x0, x1, x2, x3, x4, x5, x6, x7] Tc)).alloc (.cells c Tc)) Ta Tc a c := by
  have s1 := alloc_size w (.cells a Ta)
  have s2 := alloc_size (w.alloc (.cells a Ta)) (.cells #[x0, x1, x2, x3, x4, x5, x6, x7] Tc)
  have s3 := alloc_size ((w.alloc (.cells a Ta)).alloc (.cells #[x0, x1, x2, x3, x4, x5, x6, x7] Tc)) (.cells c Tc)
  refine ⟨below_alloc (below_alloc (below_alloc (Below.refl _ _) _) _) _, by omega, ?_, ⟨x0, x1, x2, x3, x4, x5, x6, x7, ?_⟩, ?_⟩
  · rw [alloc_old _ _ _ (by omega), alloc_old _ _ _ (by omega)]; exact alloc_at _ _
  · rw [alloc_old _ _ _ (by omega), ← s1]; exact alloc_at _ _
  · rw [show w.heap.size + 1 + 1 = ((w.alloc (.cells a Ta)).alloc (.cells #[x0, x1, x2, x3, x4, x5, x6, x7] Tc)).heap.size by omega]; exact alloc_at _ _
theorem Th.next {w W W1 : World} {Ta Tc : TypeId} {a c : Array Value} (h : Th w W Ta Tc a c) (hb : Below W.heap.size W W1) : Th w W1 Ta Tc a c := by
  have := h.size
  obtain ⟨x0, x1, x2, x3, x4, x5, x6, x7, hx⟩ := h.g1
  exact ⟨below_then h.below hb, Nat.lt_of_lt_of_le h.size hb.size, (hb.block _ (by omega)).trans h.g0, ⟨x0, x1, x2, x3, x4, x5, x6, x7, (hb.block _ (by omega)).trans hx⟩, (hb.block _ (by omega)).trans h.g2⟩
theorem Th.set {w W : World} {Ta Tc : TypeId} {a c : Array Value} (h : Th w W Ta Tc a c) (j : Nat) (v : Value) : Th w (W.setCell ⟨w.heap.size + 1 + 1, j, none⟩ v) Ta Tc a (c.setIfInBounds j v) := by
  obtain ⟨x0, x1, x2, x3, x4, x5, x6, x7, hx⟩ := h.g1
  exact ⟨below_setNew h.below (by omega), by have := h.size; simpa [World.setCell] using this, (heap_setCell_other W _ _ v (by show w.heap.size ≠ w.heap.size + 1 + 1; omega)).trans h.g0, ⟨x0, x1, x2, x3, x4, x5, x6, x7, (heap_setCell_other W _ _ v (by show w.heap.size + 1 ≠ w.heap.size + 1 + 1; omega)).trans hx⟩, heap_setCell_same W _ j c Tc v h.g2⟩
/-- What toNode does. -/
def ToN (n : Nd) (W : World) (e : Ending) (w' : World) : Prop := (∃ s', e = .returned (.agg #[.int .i64 n.kind, .string n.pre, .string n.loc, .string n.uri, .slice s'.Ad n.decls.length s'.cd, .slice s'.Aa n.attrs.length s'.ca, .slice s'.Ak n.kids.length s'.ck, .string n.text]) ∧ NodeIs w' (fun k => W.heap.size ≤ k) n s') ∧ Below W.heap.size W w'
theorem Tryz.info_Node : (Tryz.prog.info? 28).map (fun i => (i.zero, i.size, i.bytes)) = some (some (.agg #[.int .i64 0, .string ⟨#[]⟩, .string ⟨#[]⟩, .string ⟨#[]⟩, .slice none 0 0, .slice none 0 0, .slice none 0 0, .string ⟨#[]⟩]), 8, 144) := by kernel_rfl
end Go.Proofs.YtpcklgkpjmmakaaGreatDoor
