/- Boxes of two and five cells; what a function that gives a mark or a pair gives. -/
import Derived.Test.YtmfkdgdamepbcaaGreatDoorScnP
import Derived.Test.YtmfkdgdamepbcaaGreatDoorSpaced
import Derived.Test.YtmfkdgdamepbcaaGreatDoorOwnG
namespace Go.Proofs.YtmfkdgdamepbcaaGreatDoor
open Go.RowKit Go.Lib
set_option linter.unusedVariables false
section
variable {w : World} {g : Nat} {T : TypeId} {x0 x1 x2 x3 x4 : Value}
theorem cells5 (h : w.heap[g]? = some (.cells #[x0, x1, x2, x3, x4] T (0, 0))) :
    w.cell? ⟨g, 0, none⟩ = some x0 ∧ w.cell? ⟨g, 1, none⟩ = some x1 ∧ w.cell? ⟨g, 2, none⟩ = some x2 ∧ w.cell? ⟨g, 3, none⟩ = some x3 ∧ w.cell? ⟨g, 4, none⟩ = some x4 ∧
    w.frozen? ⟨g, 0, none⟩ = false ∧ w.frozen? ⟨g, 1, none⟩ = false ∧ w.frozen? ⟨g, 2, none⟩ = false ∧ w.frozen? ⟨g, 3, none⟩ = false ∧ w.frozen? ⟨g, 4, none⟩ = false :=
  ⟨cell_of_row w g 0 _ _ _ h, cell_of_row w g 1 _ _ _ h, cell_of_row w g 2 _ _ _ h, cell_of_row w g 3 _ _ _ h, cell_of_row w g 4 _ _ _ h,
    frozen_of_row w g 0 _ _ h, frozen_of_row w g 1 _ _ h, frozen_of_row w g 2 _ _ h, frozen_of_row w g 3 _ _ h, frozen_of_row w g 4 _ _ h⟩
theorem out5 (h : w.heap[g]? = some (.cells #[x0, x1, x2, x3, x4] T (0, 0))) (v0 v1 v2 v3 v4 : Value) :
    ∃ W, W = ((((w.setCell ⟨g, 0, none⟩ v0).setCell ⟨g, 1, none⟩ v1).setCell ⟨g, 2, none⟩ v2).setCell ⟨g, 3, none⟩ v3).setCell ⟨g, 4, none⟩ v4 ∧ W.heap[g]? = some (.cells #[v0, v1, v2, v3, v4] T (0, 0)) ∧ Moved g w W := by
  have h0 : (w.setCell ⟨g, 0, none⟩ v0).heap[g]? = some (.cells #[v0, x1, x2, x3, x4] T (0, 0)) := heap_setCell_same w g 0 _ _ _ h
  have h1 : ((w.setCell ⟨g, 0, none⟩ v0).setCell ⟨g, 1, none⟩ v1).heap[g]? = some (.cells #[v0, v1, x2, x3, x4] T (0, 0)) := heap_setCell_same _ g 1 _ _ _ h0
  have h2 : (((w.setCell ⟨g, 0, none⟩ v0).setCell ⟨g, 1, none⟩ v1).setCell ⟨g, 2, none⟩ v2).heap[g]? = some (.cells #[v0, v1, v2, x3, x4] T (0, 0)) := heap_setCell_same _ g 2 _ _ _ h1
  have h3 : ((((w.setCell ⟨g, 0, none⟩ v0).setCell ⟨g, 1, none⟩ v1).setCell ⟨g, 2, none⟩ v2).setCell ⟨g, 3, none⟩ v3).heap[g]? = some (.cells #[v0, v1, v2, v3, x4] T (0, 0)) := heap_setCell_same _ g 3 _ _ _ h2
  exact ⟨_, rfl, heap_setCell_same _ g 4 _ _ _ h3, (((((Moved.refl g w).set).set).set).set).set⟩
theorem put5_2 (h : w.heap[g]? = some (.cells #[x0, x1, x2, x3, x4] T (0, 0))) (v : Value) : ∃ W, W = w.setCell ⟨g, 2, none⟩ v ∧ W.heap[g]? = some (.cells #[x0, x1, v, x3, x4] T (0, 0)) ∧ Moved g w W :=
  ⟨_, rfl, heap_setCell_same w g 2 _ _ _ h, (Moved.refl g w).set⟩
theorem put5_3 (h : w.heap[g]? = some (.cells #[x0, x1, x2, x3, x4] T (0, 0))) (v : Value) : ∃ W, W = w.setCell ⟨g, 3, none⟩ v ∧ W.heap[g]? = some (.cells #[x0, x1, x2, v, x4] T (0, 0)) ∧ Moved g w W :=
  ⟨_, rfl, heap_setCell_same w g 3 _ _ _ h, (Moved.refl g w).set⟩
theorem put5_4 (h : w.heap[g]? = some (.cells #[x0, x1, x2, x3, x4] T (0, 0))) (v : Value) : ∃ W, W = w.setCell ⟨g, 4, none⟩ v ∧ W.heap[g]? = some (.cells #[x0, x1, x2, x3, v] T (0, 0)) ∧ Moved g w W :=
  ⟨_, rfl, heap_setCell_same w g 4 _ _ _ h, (Moved.refl g w).set⟩
theorem cells2 (h : w.heap[g]? = some (.cells #[x0, x1] T (0, 0))) : w.cell? ⟨g, 0, none⟩ = some x0 ∧ w.cell? ⟨g, 1, none⟩ = some x1 ∧ w.frozen? ⟨g, 0, none⟩ = false ∧ w.frozen? ⟨g, 1, none⟩ = false :=
  ⟨cell_of_row w g 0 _ _ _ h, cell_of_row w g 1 _ _ _ h, frozen_of_row w g 0 _ _ h, frozen_of_row w g 1 _ _ h⟩
theorem out2 (h : w.heap[g]? = some (.cells #[x0, x1] T (0, 0))) (v0 v1 : Value) :
    ∃ W, W = (w.setCell ⟨g, 0, none⟩ v0).setCell ⟨g, 1, none⟩ v1 ∧ W.heap[g]? = some (.cells #[v0, v1] T (0, 0)) ∧ Moved g w W := by
  have h0 : (w.setCell ⟨g, 0, none⟩ v0).heap[g]? = some (.cells #[v0, x1] T (0, 0)) := heap_setCell_same w g 0 _ _ _ h
  exact ⟨_, rfl, heap_setCell_same _ g 1 _ _ _ h0, ((Moved.refl g w).set).set⟩
theorem put2_1 (h : w.heap[g]? = some (.cells #[x0, x1] T (0, 0))) (v : Value) : ∃ W, W = w.setCell ⟨g, 1, none⟩ v ∧ W.heap[g]? = some (.cells #[x0, v] T (0, 0)) ∧ Moved g w W :=
  ⟨_, rfl, heap_setCell_same w g 1 _ _ _ h, (Moved.refl g w).set⟩
end
/-- The rows of a mark: a slice of the call's own. -/
def RawsAt (w w' : World) (rv : Value) (rs : List Dcl) : Prop := ∃ b, w.heap.size ≤ b ∧ OwnG Kd.dcl 33 w' b rv rs
theorem RawsAt.nil (w w' : World) : RawsAt w w' (.slice none 0 0) [] := ⟨_, Nat.le_refl _, OwnG.nil _ _ _ _⟩
/-- A mark and the place behind it; -1: there is none. -/
def MkOut (w : World) (o : Option (Mk × Nat)) (e : Ending) (w' : World) : Prop :=
  ∃ (m : Mk) (rv : Value) (k : Int), e = .returned (.tuple #[mkV m rv, .int .i64 k]) ∧ RawsAt w w' rv m.raws ∧ (match o with | none => k = -1 | some q => m = q.1 ∧ k = (q.2 : Nat)) ∧ Below w.heap.size w w'
theorem MkOut.none {w w' : World} {o : Option (Mk × Nat)} (h : o = .none) (k : Int) (n : ByteArray) (b : Bool) (t : ByteArray) (hb : Below w.heap.size w w') :
    MkOut w o (.returned (.tuple #[.agg #[.int .i64 k, .string n, .slice .none 0 0, .bool b, .string t], .int .i64 (-1)])) w' := by
  subst h
  exact ⟨⟨k, n, [], b, t⟩, _, _, rfl, RawsAt.nil _ _, rfl, hb⟩
theorem MkOut.some {w w' : World} {o : Option (Mk × Nat)} {k : Int} {n : ByteArray} {b : Bool} {t : ByteArray} {p : Nat} (h : o = .some (⟨k, n, [], b, t⟩, p)) (hb : Below w.heap.size w w') :
    MkOut w o (.returned (.tuple #[.agg #[.int .i64 k, .string n, .slice .none 0 0, .bool b, .string t], .int .i64 (p : Nat)])) w' := by
  subst h
  exact ⟨⟨k, n, [], b, t⟩, _, _, rfl, RawsAt.nil _ _, ⟨rfl, rfl⟩, hb⟩
theorem MkOut.at {w w' : World} {o : Option (Mk × Nat)} {k : Int} {n : ByteArray} {b : Bool} {t : ByteArray} {p : Nat} {kk : Int} (h : o = .some (⟨k, n, [], b, t⟩, p)) (e : kk = (p : Nat)) (hb : Below w.heap.size w w') :
    MkOut w o (.returned (.tuple #[.agg #[.int .i64 k, .string n, .slice .none 0 0, .bool b, .string t], .int .i64 kk])) w' := by
  subst e
  exact MkOut.some h hb
/-- A pair and the place behind it; -1: there is none. -/
def RwOut (w : World) (o : Option (Dcl × Nat)) (e : Ending) (w' : World) : Prop :=
  ∃ (x : Dcl) (k : Int), e = .returned (.tuple #[.agg #[.string x.pre, .string x.uri], .int .i64 k]) ∧ (match o with | none => k = -1 | some q => x = q.1 ∧ k = (q.2 : Nat)) ∧ Below w.heap.size w w'
theorem RwOut.none {w w' : World} {o : Option (Dcl × Nat)} (h : o = .none) (n v : ByteArray) (hb : Below w.heap.size w w') :
    RwOut w o (.returned (.tuple #[.agg #[.string n, .string v], .int .i64 (-1)])) w' := by
  subst h
  exact ⟨⟨n, v⟩, _, rfl, rfl, hb⟩
theorem RwOut.at {w w' : World} {o : Option (Dcl × Nat)} {n v : ByteArray} {p : Nat} {kk : Int} (h : o = .some (⟨n, v⟩, p)) (e : kk = (p : Nat)) (hb : Below w.heap.size w w') :
    RwOut w o (.returned (.tuple #[.agg #[.string n, .string v], .int .i64 kk])) w' := by
  subst h
  exact ⟨⟨n, v⟩, _, rfl, ⟨rfl, e⟩, hb⟩
theorem OwnG.moved {α : Type} {d : Kd α} {e : TypeId} {w w2 : World} {base g : Nat} {v : Value} {xs : List α} (h : OwnG d e w base v xs) (hm : Moved g w w2) (hg : g < base) : OwnG d e w2 base v xs := by
  have h1 := Own.bound h
  have h2 : Own d e w2 base (fun k => okG w base v k ∧ k < w.heap.size) v xs := Own.agree h1 (fun k hk _ => hm.block k hk.2 (by have := hk.1.1; omega)) (fun k hk => hm.block k (h.base_le k hk).2 (by have := (h.base_le k hk).1; omega))
  exact h2.mono (fun k hk => ⟨hk.1.1, hk.1.2.1, Nat.lt_of_lt_of_le hk.2 hm.size⟩)
theorem Tryz.info_Raw : (Tryz.prog.info? 33).map (fun i => (i.zero, i.size, i.bytes)) = some (some (.agg #[.string ⟨#[]⟩, .string ⟨#[]⟩]), 2, 32) := by kernel_rfl
theorem pair_one (a b : ByteArray) : ∀ u ∈ [Value.string a, Value.string b], u.oneCell' = true := by
  intro u hu
  simp only [List.mem_cons, List.not_mem_nil, or_false] at hu
  rcases hu with rfl | rfl <;> rfl
theorem pair_news (W : World) (x y : Value) (T : TypeId) : ∀ j u, [x, y][j]? = some u → (W.alloc (.cells #[x, y] T (0, 0))).cell? ((⟨W.heap.size, 0, none⟩ : Addr).add j) = some u := by
  intro j u hj
  have hg : (W.alloc (.cells #[x, y] T (0, 0))).heap[W.heap.size]? = some (.cells #[x, y] T (0, 0)) := Array.getElem?_push_size
  rw [Addr.add_lit, cell_of_row _ _ _ _ _ _ hg, Nat.zero_add, ← hj]
  simp [List.getElem?_toArray]
end Go.Proofs.YtmfkdgdamepbcaaGreatDoor
