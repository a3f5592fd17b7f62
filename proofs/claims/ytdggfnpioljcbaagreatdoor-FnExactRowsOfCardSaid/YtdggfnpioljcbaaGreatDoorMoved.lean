/- One block of the call's own changes, and new ones. -/
import Derived.Test.YtdggfnpioljcbaaGreatDoorKit
namespace Go.Proofs.YtdggfnpioljcbaaGreatDoor
open Go.RowKit
set_option linter.unusedVariables false
/-- Only block g and new ones change. -/
structure Moved (g : Nat) (w w' : World) : Prop where
  os : w'.os = w.os
  tape : w'.tape = w.tape
  output : w'.output = w.output
  size : w.heap.size ≤ w'.heap.size
  block : ∀ k, k < w.heap.size → k ≠ g → w'.heap[k]? = w.heap[k]?
theorem Moved.refl (g : Nat) (w : World) : Moved g w w := ⟨rfl, rfl, rfl, Nat.le_refl _, fun _ _ _ => rfl⟩
theorem Moved.trans {g : Nat} {a b c : World} (h : Moved g a b) (k : Moved g b c) : Moved g a c :=
  ⟨k.os.trans h.os, k.tape.trans h.tape, k.output.trans h.output, Nat.le_trans h.size k.size, fun j hj hne => (k.block j (Nat.lt_of_lt_of_le hj h.size) hne).trans (h.block j hj hne)⟩
theorem Moved.of {g : Nat} {w w' : World} (h : Below w.heap.size w w') : Moved g w w' := ⟨h.os, h.tape, h.output, h.size, fun k hk _ => h.block k hk⟩
theorem Moved.then {g : Nat} {a b c : World} (h : Moved g a b) (k : Below b.heap.size b c) : Moved g a c := h.trans (.of k)
theorem Moved.alloc {g : Nat} {a b : World} (h : Moved g a b) (o : Obj) : Moved g a (b.alloc o) := h.then (below_alloc (Below.refl _ _) o)
theorem Moved.drew {g : Nat} {a b : World} (h : Moved g a b) : Moved g a b.drew := h.then (below_drew (Below.refl _ _))
theorem Moved.drewN {g : Nat} {a b : World} (h : Moved g a b) (n : Nat) : Moved g a (b.drewN n) := h.then (below_drewN (Below.refl _ _) n)
theorem Moved.set {g o : Nat} {a b : World} {u : Value} (h : Moved g a b) : Moved g a (b.setCell ⟨g, o, none⟩ u) :=
  h.trans ⟨rfl, rfl, rfl, by simp [World.setCell], fun k _ hne => Below.heap_setCell _ _ _ _ hne⟩
theorem Moved.below {g n : Nat} {w w' : World} (h : Moved g w w') (hg : n ≤ g) (hn : n ≤ w.heap.size) : Below n w w' :=
  ⟨h.os, h.tape, h.output, h.size, fun k hk => h.block k (by omega) (by omega)⟩
theorem below_moved {g : Nat} {a b c : World} (h : Below a.heap.size a b) (k : Moved g b c) (hg : a.heap.size ≤ g) : Below a.heap.size a c :=
  h.trans (k.below hg h.size)
theorem moved_row {α : Type} {d : Kd α} {g : Nat} {w w' : World} {ok : Nat → Prop} {A : Option Addr} {xs : List α} (h : Moved g w w') (hr : Row d w ok A xs) (hok : ∀ k, ok k → k ≠ g) : Row d w' ok A xs :=
  hr.agree (fun k hk hlt => h.block k hlt (hok k hk))
theorem moved_cell {g : Nat} {w w' : World} (h : Moved g w w') {b o : Nat} (hb : b < w.heap.size) (hne : b ≠ g) : w'.cell? ⟨b, o, none⟩ = w.cell? ⟨b, o, none⟩ :=
  World.cell?_of_block (a := ⟨b, o, none⟩) (h.block b hb hne)

end Go.Proofs.YtdggfnpioljcbaaGreatDoor
