/- Slices of the call's own that grow by append, whose elements lie in blocks of their own. No program here. -/
import Derived.Test.YtpcklgkpjmmakaaGreatDoorBase
import Derived.Maps.AppendAt
namespace Go.Proofs.YtpcklgkpjmmakaaGreatDoor
open Go.RowKit
set_option linter.unusedVariables false
section
variable {α : Type} {d : Kd α} {e : TypeId} {w w2 w3 : World} {base : Nat} {v v' : Value} {xs : List α} {x : α} {cs cells : List Value} {o : Obj}
def okG (w : World) (base : Nat) (v : Value) (k : Nat) : Prop := base ≤ k ∧ v.ownBlock ≠ some k ∧ k < w.heap.size
def OwnG (d : Kd α) (e : TypeId) (w : World) (base : Nat) (v : Value) (xs : List α) : Prop := Own d e w base (okG w base v) v xs
theorem OwnG.nil (d : Kd α) (e : TypeId) (w : World) (base : Nat) : OwnG d e w base (.slice none 0 0) ([] : List α) := Own.nil _ _ _ _ _
theorem OwnG.made (d : Kd α) (e T : TypeId) (w : World) (base : Nat) (h : base ≤ w.heap.size) : OwnG d T (w.alloc (.cells #[] T (0, 0))) base (.slice (some ⟨w.heap.size, 0, none⟩) 0 0) ([] : List α) :=
  ⟨[], World.ownsRow_made w #[] 0 h (Nat.zero_le _) (by simp), Says.nil _ _ _⟩
theorem OwnG.below (h : OwnG d e w base v xs) (hb : Below w.heap.size w w2) : OwnG d e w2 base v xs := by
  have h2 : Own d e w2 base (okG w base v) v xs := Own.below h hb
  exact h2.mono (fun k hk => ⟨hk.1, hk.2.1, Nat.lt_of_lt_of_le hk.2.2 hb.size⟩)
theorem OwnG.snoc (ho : w.ownsRow base e d.sz v xs.length cells) (hs : Says d w (okG w base v) xs cells) (hbase : base ≤ w.heap.size) (hb : Below w.heap.size w w2)
    (hx : d.K w2 (fun k => w.heap.size ≤ k ∧ k < w2.heap.size) x cs) (hown : w3.ownsRow base e d.sz v' (xs.length + 1) (cells ++ cs)) (hgrow : (w2.alloc o).grownBy w3 v.ownBlock)
    (hat : v'.ownBlock = v.ownBlock ∨ v'.ownBlock = some (w2.heap.size + 1)) : OwnG d e w3 base v' (xs ++ [x]) := by
  have e2 : (w2.alloc o).heap.size = w2.heap.size + 1 := Array.size_push _
  have hsz := hb.size
  have hsz3 := hgrow.size
  have hold : ∀ k, k < w2.heap.size → v.ownBlock ≠ some k → w3.heap[k]? = w2.heap[k]? := fun k hk hne =>
    (hgrow.block k (by omega) (fun h => hne h.symm)).trans ((below_alloc (Below.refl w2.heap.size w2) o).block k hk)
  have hnot : ∀ k, k < w2.heap.size → v.ownBlock ≠ some k → v'.ownBlock ≠ some k := fun k hk hne h => by
    rcases hat with h' | h'
    · rw [h'] at h; exact hne h
    · rw [h'] at h; injection h with h; omega
  refine ⟨cells ++ cs, by rw [List.length_append, List.length_singleton]; exact hown, ?_⟩
  refine Says.snoc ?_ ?_
  · exact (hs.agree (w1 := w3) (fun k hk hlt => (hold k (by omega) hk.2.1).trans (hb.block k hlt))).mono (fun k hk => ⟨hk.1, hnot k (by have := hk.2.2; omega) hk.2.1, by have := hk.2.2; omega⟩)
  · have hne : ∀ k, w.heap.size ≤ k → v.ownBlock ≠ some k := fun k hk h => by have := (ho.lt k h).2; omega
    exact d.mono (fun k hk => ⟨by have := hk.1; omega, hnot k hk.2 (hne k hk.1), by have := hk.2; omega⟩) (d.agree (w1 := w3) (fun k hk hlt => hold k hlt (hne k hk.1)) hx)
theorem OwnG.row (h : OwnG d e w base v xs) : ∃ A c, v = .slice A xs.length c ∧ xs.length ≤ c ∧ Row d w (fun k => base ≤ k) A xs :=
  Own.row h (fun k hk => hk.1) (fun k hk => (h.base_le k hk).1)
theorem OwnG.lt (h : OwnG d e w base v xs) : ∀ k, v.ownBlock = some k → base ≤ k := fun k hk => (h.base_le k hk).1
/-- What the call's own changes leave of the worlds before. -/
theorem below_grown {W : World} (h : Below W.heap.size W w) (hg : w.grownBy w3 v.ownBlock) (hv : ∀ k, v.ownBlock = some k → W.heap.size ≤ k) : Below W.heap.size W w3 :=
  ⟨hg.os.trans h.os, hg.tape.trans h.tape, hg.output.trans h.output, Nat.le_trans h.size hg.size, fun k hk =>
    (hg.block k (Nat.lt_of_lt_of_le hk h.size) (fun e => by have := hv k e.symm; omega)).trans (h.block k hk)⟩
end
end Go.Proofs.YtpcklgkpjmmakaaGreatDoor
