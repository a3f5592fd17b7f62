/- Rows of elements of several cells that are being filled. No program here. -/
import Derived.Test.YtpcklgkpjmmakaaGreatDoorBase
import Derived.Laws.IdiomCopy
namespace Go.Proofs.YtpcklgkpjmmakaaGreatDoor
open Go.RowKit
set_option linter.unusedVariables false
section
variable {α : Type} {d : Kd α} {w w1 : World} {ok ok' : Nat → Prop} {base : Nat} {e : TypeId} {xs : List α} {cells : List Value}
def setL : List Value → Nat → List Value → List Value
  | cells, _, [] => cells
  | cells, o, v :: r => setL (cells.set o v) (o + 1) r
theorem setL_length : ∀ (vs : List Value) (cells : List Value) (o : Nat), (setL cells o vs).length = cells.length
  | [], _, _ => rfl
  | v :: r, cells, o => by rw [setL, setL_length r]; simp
theorem setL_get : ∀ (vs : List Value) (cells : List Value) (o i : Nat), o + vs.length ≤ cells.length → (setL cells o vs)[i]? = if o ≤ i ∧ i < o + vs.length then vs[i - o]? else cells[i]?
  | [], cells, o, i, h => by rw [setL, if_neg (by simp)]
  | v :: r, cells, o, i, h => by
    simp only [List.length_cons] at h
    rw [setL, setL_get r _ _ _ (by rw [List.length_set]; omega)]
    simp only [List.length_cons]
    by_cases h1 : o + 1 ≤ i ∧ i < o + 1 + r.length
    · rw [if_pos h1, if_pos (by omega), show i - o = (i - (o + 1)) + 1 by omega]; rfl
    · rw [if_neg h1]
      by_cases h2 : i = o
      · subst h2
        rw [if_pos (by omega), List.getElem?_set_self (by omega)]
        simp
      · rw [if_neg (by omega), List.getElem?_set_ne (by omega)]
theorem setL_seg (vs cells : List Value) (o : Nat) (h : o + vs.length ≤ cells.length) : ((setL cells o vs).drop o).take vs.length = vs := by
  apply List.ext_getElem?
  intro i
  rw [List.getElem?_take]
  split
  · rw [List.getElem?_drop, setL_get _ _ _ _ h, if_pos (by omega)]
    simp
  · rw [List.getElem?_eq_none (by omega)]
theorem setL_other (vs cells : List Value) (o p n : Nat) (h : o + vs.length ≤ cells.length) (hd : p + n ≤ o ∨ o + vs.length ≤ p) : ((setL cells o vs).drop p).take n = (cells.drop p).take n := by
  apply List.ext_getElem?
  intro i
  rw [List.getElem?_take, List.getElem?_take]
  split
  · rw [List.getElem?_drop, List.getElem?_drop, setL_get _ _ _ _ h, if_neg (by omega)]
  · rfl
/-- The first j elements are there. -/
def FillN (d : Kd α) (w : World) (ok : Nat → Prop) (xs : List α) (j : Nat) (cells : List Value) : Prop :=
  cells.length = xs.length * d.sz ∧ ∀ i (hi : i < xs.length), i < j → d.K w ok (xs[i]'hi) ((cells.drop (i * d.sz)).take d.sz)
theorem FillN.start (d : Kd α) (w : World) (ok : Nat → Prop) (h : cells.length = xs.length * d.sz) : FillN d w ok xs 0 cells := ⟨h, fun _ _ hj => absurd hj (Nat.not_lt_zero _)⟩
theorem FillN.agree {j : Nat} (h : FillN d w ok xs j cells) (hs : ∀ k, ok k → k < w.heap.size → w1.heap[k]? = w.heap[k]?) : FillN d w1 ok xs j cells :=
  ⟨h.1, fun i hi hj => d.agree hs (h.2 i hi hj)⟩
theorem FillN.step {j : Nat} {vs : List Value} (h : FillN d w ok xs j cells) (hj : j < xs.length) (hk : d.K w ok (xs[j]'hj) vs) : FillN d w ok xs (j + 1) (setL cells (j * d.sz) vs) := by
  have hl := d.len hk
  have hle : j * d.sz + d.sz ≤ xs.length * d.sz := by rw [← Nat.succ_mul]; exact Nat.mul_le_mul_right _ hj
  have hle2 : j * d.sz + vs.length ≤ cells.length := by rw [h.1, hl]; exact hle
  refine ⟨by rw [setL_length]; exact h.1, fun i hi hij => ?_⟩
  by_cases e : i = j
  · subst e
    have := setL_seg vs cells (i * d.sz) hle2
    rw [hl] at this
    rw [this]
    exact hk
  · have h3 : i * d.sz + d.sz ≤ j * d.sz := by rw [← Nat.succ_mul]; exact Nat.mul_le_mul_right _ (by omega)
    rw [setL_other _ _ _ _ _ hle2 (.inl h3)]
    exact h.2 i hi (by omega)
theorem FillN.done {j : Nat} (h : FillN d w ok xs j cells) (hj : xs.length ≤ j) : Says d w ok xs cells := ⟨h.1, fun i hi => h.2 i hi (by omega)⟩
theorem own_stored {g n cap size : Nat} : ∀ (vs : List Value) (o : Nat) (w : World) (cells : List Value), w.ownsRow base e size (.slice (some ⟨g, 0, none⟩) n cap) n cells →
    (w.setCells g o vs).ownsRow base e size (.slice (some ⟨g, 0, none⟩) n cap) n (setL cells o vs)
  | [], _, _, _, h => h
  | v :: r, o, w, cells, h => own_stored r (o + 1) _ _ (h.stored o v).1
theorem fill_cellN {g n c i size : Nat} (h : w.ownsRow base e size (.slice (some ⟨g, 0, none⟩) n c) n cells) (hi : i < n * size) : (∃ u, w.cell? ⟨g, i, none⟩ = some u) ∧ w.frozen? ⟨g, i, none⟩ = false := by
  have hx : i < cells.length := by rw [h.1]; exact hi
  exact ⟨⟨cells[i], by rw [h.cellAt i hi, List.getElem?_eq_getElem hx]⟩, h.frozenAt i⟩
theorem setCells_same (g : Nat) : ∀ (vs : List Value) (o : Nat) (w : World) (k : Nat), k ≠ g → (w.setCells g o vs).heap[k]? = w.heap[k]?
  | [], _, _, _, _ => rfl
  | v :: r, o, w, k, h => (setCells_same g r (o + 1) _ k h).trans (Below.heap_setCell _ _ _ _ h)
theorem setCells_below (g : Nat) : ∀ (vs : List Value) (o : Nat) (w w1 : World), Below w.heap.size w w1 → w.heap.size ≤ g → Below w.heap.size w (w1.setCells g o vs)
  | [], _, _, _, h, _ => h
  | v :: r, o, w, w1, h, hg => setCells_below g r (o + 1) w _ (below_setNew h hg) hg
theorem setCells_size (g : Nat) : ∀ (vs : List Value) (o : Nat) (w : World), (w.setCells g o vs).heap.size = w.heap.size
  | [], _, _ => rfl
  | v :: r, o, w => by rw [World.setCells, setCells_size g r]; simp [World.setCell]
theorem set8 {X : World} {g : Nat} {T : TypeId} {x0 x1 x2 x3 x4 x5 x6 x7 : Value} (h : X.heap[g]? = some (.cells #[x0, x1, x2, x3, x4, x5, x6, x7] T (0, 0))) (v0 v1 v2 v3 v4 v5 v6 v7 : Value) : (X.setCells g 0 [v0, v1, v2, v3, v4, v5, v6, v7]).heap[g]? = some (.cells #[v0, v1, v2, v3, v4, v5, v6, v7] T (0, 0)) := by
  have h0 : (World.setCell X ⟨g, 0, none⟩ v0).heap[g]? = some (.cells #[v0, x1, x2, x3, x4, x5, x6, x7] T (0, 0)) := heap_setCell_same _ g 0 _ _ _ h
  generalize hW0 : World.setCell X ⟨g, 0, none⟩ v0 = W0 at h0
  have h1 : (World.setCell W0 ⟨g, 1, none⟩ v1).heap[g]? = some (.cells #[v0, v1, x2, x3, x4, x5, x6, x7] T (0, 0)) := heap_setCell_same _ g 1 _ _ _ h0
  generalize hW1 : World.setCell W0 ⟨g, 1, none⟩ v1 = W1 at h1
  have h2 : (World.setCell W1 ⟨g, 2, none⟩ v2).heap[g]? = some (.cells #[v0, v1, v2, x3, x4, x5, x6, x7] T (0, 0)) := heap_setCell_same _ g 2 _ _ _ h1
  generalize hW2 : World.setCell W1 ⟨g, 2, none⟩ v2 = W2 at h2
  have h3 : (World.setCell W2 ⟨g, 3, none⟩ v3).heap[g]? = some (.cells #[v0, v1, v2, v3, x4, x5, x6, x7] T (0, 0)) := heap_setCell_same _ g 3 _ _ _ h2
  generalize hW3 : World.setCell W2 ⟨g, 3, none⟩ v3 = W3 at h3
  have h4 : (World.setCell W3 ⟨g, 4, none⟩ v4).heap[g]? = some (.cells #[v0, v1, v2, v3, v4, x5, x6, x7] T (0, 0)) := heap_setCell_same _ g 4 _ _ _ h3
  generalize hW4 : World.setCell W3 ⟨g, 4, none⟩ v4 = W4 at h4
  have h5 : (World.setCell W4 ⟨g, 5, none⟩ v5).heap[g]? = some (.cells #[v0, v1, v2, v3, v4, v5, x6, x7] T (0, 0)) := heap_setCell_same _ g 5 _ _ _ h4
  generalize hW5 : World.setCell W4 ⟨g, 5, none⟩ v5 = W5 at h5
  have h6 : (World.setCell W5 ⟨g, 6, none⟩ v6).heap[g]? = some (.cells #[v0, v1, v2, v3, v4, v5, v6, x7] T (0, 0)) := heap_setCell_same _ g 6 _ _ _ h5
  generalize hW6 : World.setCell W5 ⟨g, 6, none⟩ v6 = W6 at h6
  have h7 : (World.setCell W6 ⟨g, 7, none⟩ v7).heap[g]? = some (.cells #[v0, v1, v2, v3, v4, v5, v6, v7] T (0, 0)) := heap_setCell_same _ g 7 _ _ _ h6
  generalize hW7 : World.setCell W6 ⟨g, 7, none⟩ v7 = W7 at h7
  simp only [World.setCells, Nat.zero_add, Nat.reduceAdd]
  rw [hW0, hW1, hW2, hW3, hW4, hW5, hW6, hW7]
  exact h7
end
end Go.Proofs.YtpcklgkpjmmakaaGreatDoor
