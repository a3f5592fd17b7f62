/- Joined: Kit, Moved, Later. -/
import Derived.Below
import Derived.Laws.AppendOwn
import Derived.Laws.OwnMore
import Derived.Laws.MakeOwn
import Derived.Laws.Rows
import Derived.OwnWalk
import Derived.Deep.Heap
import Derived.RowKit3
import Derived.Deep.Draws
import Derived.Deep.QuietTactic
section
/- Kinds: what a value's cells say, with the blocks that they lie in; rows of such; no program here. -/
namespace Go.Proofs.YtpcklgkpjmmakaaGreatDoor
open Go.RowKit
/-- A fact that is kept out of the walks' sight. -/
structure Aside0 (p : Prop) : Prop where mk :: (out : p)
/-- A kind: the cells of a datum; 'ok' holds of each block that is read on the way. -/
structure Kd (α : Type) where
  sz : Nat
  K : World → (Nat → Prop) → α → List Value → Prop
  len : ∀ {w ok x cs}, K w ok x cs → cs.length = sz
  agree : ∀ {w w1 : World} {ok x cs}, (∀ k, ok k → k < w.heap.size → w1.heap[k]? = w.heap[k]?) → K w ok x cs → K w1 ok x cs
  mono : ∀ {w ok ok' x cs}, (∀ k, ok k → ok' k) → K w ok x cs → K w ok' x cs
  bound : ∀ {w ok x cs}, K w ok x cs → K w (fun k => ok k ∧ k < w.heap.size) x cs
variable {α β : Type}
theorem lt_of_same {w w1 : World} {k : Nat} (h : w1.heap[k]? = w.heap[k]?) (hk : k < w.heap.size) : k < w1.heap.size := by
  rw [Array.getElem?_eq_getElem hk] at h
  exact (Array.getElem?_eq_some_iff.1 h).1
/-- Draws alone. -/
def Drawn (w w' : World) : Prop := ∃ n, w' = w.drewN n
theorem Drawn.refl (w : World) : Drawn w w := ⟨0, rfl⟩
theorem Drawn.of (w : World) (n : Nat) : Drawn w (w.drewN n) := ⟨n, rfl⟩
theorem Drawn.trans {a b c : World} (h : Drawn a b) (k : Drawn b c) : Drawn a c := by
  obtain ⟨n, rfl⟩ := h
  obtain ⟨m, rfl⟩ := k
  exact ⟨n + m, World.drewN_drewN _ _ _⟩
theorem Drawn.below {w w' : World} (h : Drawn w w') : Below w.heap.size w w' := by
  obtain ⟨n, rfl⟩ := h
  exact ⟨rfl, rfl, rfl, Nat.le_refl _, fun _ _ => rfl⟩
/-- In a drawn region: a callee that leaves the world as it is; one that only draws. -/
theorem quiet_same {P : Program} {f : FuncId} {args : Array Value} {w : World} {n : Nat} {v : Value} (h : Calls P f args (w.drewN n) fun e w' => e = .returned v ∧ w.drewN n = w') :
    Calls P f args (w.drewN n) fun e w'' => e = .returned v ∧ ∃ m, w'' = w.drewN m := h.mono fun _ _ ⟨he, hm⟩ => ⟨he, n, hm.symm⟩
/-- A row of data that is read from the address A on. -/
def Row (d : Kd α) (w : World) (ok : Nat → Prop) (A : Option Addr) (xs : List α) : Prop :=
  xs.length ≤ maxLen ∧ (xs = [] ∨ ∃ b o, A = some ⟨b, o, none⟩ ∧ ok b ∧ b < w.heap.size ∧
    ∀ i (hi : i < xs.length), ∃ cs, d.K w ok (xs[i]'hi) cs ∧ ∀ j v, cs[j]? = some v → w.cell? ⟨b, o + i * d.sz + j, none⟩ = some v)
namespace Row
variable {d : Kd α} {w w1 : World} {ok ok' : Nat → Prop} {A : Option Addr} {xs : List α}
theorem nil (d : Kd α) (w : World) (ok : Nat → Prop) (A : Option Addr) : Row d w ok A ([] : List α) := ⟨Nat.zero_le _, .inl rfl⟩
theorem max (h : Row d w ok A xs) : xs.length ≤ 9223372036854775807 := h.1
theorem agree (hs : ∀ k, ok k → k < w.heap.size → w1.heap[k]? = w.heap[k]?) (h : Row d w ok A xs) : Row d w1 ok A xs := by
  refine ⟨h.1, ?_⟩
  rcases h.2 with h | ⟨b, o, hA, hb, hlt, hi⟩
  · exact .inl h
  · refine .inr ⟨b, o, hA, hb, lt_of_same (hs b hb hlt) hlt, fun i h => ?_⟩
    obtain ⟨cs, hk, hc⟩ := hi i h
    exact ⟨cs, d.agree hs hk, fun j v hj => (World.cell?_of_block (w := w) (a := ⟨b, o + i * d.sz + j, none⟩) (hs b hb hlt)).trans (hc j v hj)⟩
theorem mono (hok : ∀ k, ok k → ok' k) (h : Row d w ok A xs) : Row d w ok' A xs := by
  refine ⟨h.1, ?_⟩
  rcases h.2 with h | ⟨b, o, hA, hb, hlt, hi⟩
  · exact .inl h
  · exact .inr ⟨b, o, hA, hok b hb, hlt, fun i h => by obtain ⟨cs, hk, hc⟩ := hi i h; exact ⟨cs, d.mono hok hk, hc⟩⟩
theorem bound (h : Row d w ok A xs) : Row d w (fun k => ok k ∧ k < w.heap.size) A xs := by
  refine ⟨h.1, ?_⟩
  rcases h.2 with h | ⟨b, o, hA, hb, hlt, hi⟩
  · exact .inl h
  · exact .inr ⟨b, o, hA, ⟨hb, hlt⟩, hlt, fun i h => by obtain ⟨cs, hk, hc⟩ := hi i h; exact ⟨cs, d.bound hk, hc⟩⟩
theorem below (h : Row d w ok A xs) (hb : Below w.heap.size w w1) : Row d w1 ok A xs := agree (fun k _ hlt => hb.block k hlt) h
theorem drewN (h : Row d w ok A xs) (n : Nat) : Row d (w.drewN n) ok A xs := agree (w := w) (w1 := w.drewN n) (fun _ _ _ => rfl) h
theorem drawn (h : Row d w ok A xs) (hd : Drawn w w1) : Row d w1 ok A xs := by
  obtain ⟨n, rfl⟩ := hd
  exact h.drewN n
/-- A store into another block. -/
theorem set (h : Row d w ok A xs) {p : Addr} {u : Value} (hne : ∀ k, ok k → k ≠ p.block) : Row d (w.setCell p u) ok A xs := agree (fun k hk _ => Below.heap_setCell _ _ _ _ (hne k hk)) h
/-- An element. -/
theorem at_ (h : Row d w ok A xs) (i : Nat) (hi : i < xs.length) :
    ∃ b o cs, A = some ⟨b, o, none⟩ ∧ b < w.heap.size ∧ ok b ∧ d.K w ok (xs[i]'hi) cs ∧ ∀ j v, cs[j]? = some v → w.cell? ⟨b, o + i * d.sz + j, none⟩ = some v := by
  rcases h.2 with h | ⟨b, o, hA, hb, hlt, hh⟩
  · subst h; exact absurd hi (Nat.not_lt_zero _)
  · obtain ⟨cs, hk, hc⟩ := hh i hi
    exact ⟨b, o, cs, hA, hlt, hb, hk, hc⟩
theorem take (h : Row d w ok A xs) (n : Nat) : Row d w ok A (xs.take n) := by
  refine ⟨Nat.le_trans (List.length_take_le' _ _) h.1, ?_⟩
  rcases h.2 with h | ⟨b, o, hA, hb, hlt, hi⟩
  · exact .inl (by simp [h])
  · exact .inr ⟨b, o, hA, hb, hlt, fun i h => by
      rw [List.length_take] at h
      obtain ⟨cs, hk, hc⟩ := hi i (by omega)
      exact ⟨cs, by rw [List.getElem_take]; exact hk, hc⟩⟩
theorem drop (h : Row d w ok A xs) (n : Nat) (hn : n < xs.length) : Row d w ok (A.map (·.add (n * d.sz))) (xs.drop n) := by
  refine ⟨by rw [List.length_drop]; exact Nat.le_trans (Nat.sub_le _ _) h.1, ?_⟩
  rcases h.2 with h | ⟨b, o, hA, hb, hlt, hi⟩
  · exact .inl (by simp [h])
  · refine .inr ⟨b, o + n * d.sz, ?_, hb, hlt, fun i h => ?_⟩
    · rw [hA]
      simp only [Option.map_some, Addr.add]
      split
      · rename_i e; rw [e]; rfl
      · rfl
    · rw [List.length_drop] at h
      obtain ⟨cs, hk, hc⟩ := hi (n + i) (by omega)
      refine ⟨cs, by rw [List.getElem_drop]; exact hk, fun j v hj => ?_⟩
      have := hc j v hj
      rw [show o + n * d.sz + i * d.sz + j = o + (n + i) * d.sz + j from by rw [Nat.add_mul]; omega]
      exact this
end Row
namespace Kd
theorem below (d : Kd α) {w w1 : World} {ok : Nat → Prop} {x : α} {cs : List Value} (h : d.K w ok x cs) (hb : Below w.heap.size w w1) : d.K w1 ok x cs := d.agree (fun k _ hlt => hb.block k hlt) h
/-- One cell. -/
def one (enc : α → Value) : Kd α where
  sz := 1
  K := fun _ _ x cs => cs = [enc x]
  len := fun h => by rw [h]; rfl
  agree := fun _ h => h
  mono := fun _ h => h
  bound := fun h => h
def int (k : IntKind) : Kd Int := one (Value.int k)
def bool : Kd Bool := one Value.bool
/-- A slice. -/
def slice (d : Kd α) : Kd (List α) where
  sz := 1
  K := fun w ok xs cs => ∃ A c, cs = [.slice A xs.length c] ∧ xs.length ≤ c ∧ Row d w ok A xs
  len := by rintro w ok x cs ⟨A, c, rfl, _⟩; rfl
  agree := by rintro w w1 ok x cs hs ⟨A, c, rfl, hl, hr⟩; exact ⟨A, c, rfl, hl, hr.agree hs⟩
  mono := by rintro w ok ok' x cs hs ⟨A, c, rfl, hl, hr⟩; exact ⟨A, c, rfl, hl, hr.mono hs⟩
  bound := by rintro w ok x cs ⟨A, c, rfl, hl, hr⟩; exact ⟨A, c, rfl, hl, hr.bound⟩
end Kd
/-! ### elements by kind -/
section
variable {w w1 : World} {ok ok' : Nat → Prop} {A : Option Addr}
theorem one_at {enc : α → Value} {xs : List α} (h : Row (Kd.one enc) w ok A xs) (i : Nat) (hi : i < xs.length) : ∃ b o, A = some ⟨b, o, none⟩ ∧ b < w.heap.size ∧ w.cell? ⟨b, o + i, none⟩ = some (enc (xs[i]'hi)) := by
  obtain ⟨b, o, cs, hA, hb, _, hk, hc⟩ := h.at_ i hi
  have hk : cs = [enc (xs[i]'hi)] := hk
  subst hk
  have := hc 0 _ rfl
  rw [show o + i * (Kd.one enc).sz + 0 = o + i from by show o + i * 1 + 0 = _; omega] at this
  exact ⟨b, o, hA, hb, this⟩
theorem int_at {k : IntKind} {xs : List Int} (h : Row (Kd.int k) w ok A xs) (i : Nat) (hi : i < xs.length) : ∃ b o, A = some ⟨b, o, none⟩ ∧ b < w.heap.size ∧ w.cell? ⟨b, o + i, none⟩ = some (.int k (xs[i]'hi)) := one_at h i hi
theorem slice_at {d : Kd α} {xs : List (List α)} (h : Row (Kd.slice d) w ok A xs) (i : Nat) (hi : i < xs.length) :
    ∃ b o A0 c0, A = some ⟨b, o, none⟩ ∧ b < w.heap.size ∧ w.cell? ⟨b, o + i, none⟩ = some (.slice A0 (xs[i]'hi).length c0) ∧ (xs[i]'hi).length ≤ c0 ∧ Row d w ok A0 (xs[i]'hi) := by
  obtain ⟨b, o, cs, hA, hb, _, ⟨A0, c0, rfl, hl, hr⟩, hc⟩ := h.at_ i hi
  have := hc 0 _ rfl
  rw [show o + i * (Kd.slice d).sz + 0 = o + i from by show o + i * 1 + 0 = _; omega] at this
  exact ⟨b, o, A0, c0, hA, hb, this, hl, hr⟩
end
/-- A row that is laid out whole. -/
theorem row_one {α : Type} {enc : α → Value} {w : World} {ok : Nat → Prop} {T : TypeId} {cells : Array Value} (xs : List α) (hc : cells = (xs.map enc).toArray) (hok : ok w.heap.size) (hm : xs.length ≤ maxLen) :
    Row (Kd.one enc) (w.alloc (.cells cells T (0, 0))) ok (some ⟨w.heap.size, 0, none⟩) xs := by
  subst hc
  refine ⟨hm, .inr ⟨_, _, rfl, hok, by rw [World.alloc, Array.size_push]; omega, fun i hi => ⟨_, rfl, fun j v hj => ?_⟩⟩⟩
  have hg : (w.alloc (.cells (xs.map enc).toArray T (0, 0))).heap[w.heap.size]? = some (.cells (xs.map enc).toArray T (0, 0)) := Array.getElem?_push_size
  rw [cell_of_row _ _ _ _ _ _ hg]
  cases j with
  | zero =>
    cases hj
    rw [show 0 + i * (Kd.one enc).sz + 0 = i from by show 0 + i * 1 + 0 = i; omega]
    simp [hi]
  | succ j => cases hj
/-! ### rows of the call's own -/
section
variable {d : Kd α} {w w1 : World} {ok ok' : Nat → Prop} {base : Nat} {e : TypeId} {v : Value} {xs : List α} {cells : List Value}
/-- Flat cells that say xs. -/
def Says (d : Kd α) (w : World) (ok : Nat → Prop) (xs : List α) (cells : List Value) : Prop :=
  cells.length = xs.length * d.sz ∧ ∀ i (hi : i < xs.length), d.K w ok (xs[i]'hi) ((cells.drop (i * d.sz)).take d.sz)
theorem Says.nil (d : Kd α) (w : World) (ok : Nat → Prop) : Says d w ok ([] : List α) [] := ⟨by simp, fun i hi => absurd hi (Nat.not_lt_zero _)⟩
theorem Says.agree (hs : ∀ k, ok k → k < w.heap.size → w1.heap[k]? = w.heap[k]?) (h : Says d w ok xs cells) : Says d w1 ok xs cells := ⟨h.1, fun i hi => d.agree hs (h.2 i hi)⟩
theorem Says.mono (hs : ∀ k, ok k → ok' k) (h : Says d w ok xs cells) : Says d w ok' xs cells := ⟨h.1, fun i hi => d.mono hs (h.2 i hi)⟩
theorem Says.bound (h : Says d w ok xs cells) : Says d w (fun k => ok k ∧ k < w.heap.size) xs cells := ⟨h.1, fun i hi => d.bound (h.2 i hi)⟩
theorem Says.snoc {x : α} {cs : List Value} (h : Says d w ok xs cells) (hx : d.K w ok x cs) : Says d w ok (xs ++ [x]) (cells ++ cs) := by
  have hl := d.len hx
  refine ⟨by simp [h.1, hl, Nat.add_mul], fun i hi => ?_⟩
  rw [List.length_append, List.length_singleton] at hi
  by_cases he : i < xs.length
  · have hle : i * d.sz + d.sz ≤ cells.length := by rw [h.1, ← Nat.succ_mul]; exact Nat.mul_le_mul_right _ he
    rw [List.getElem_append_left he, List.drop_append_of_le_length (by omega), List.take_append_of_le_length (by rw [List.length_drop]; omega)]
    exact h.2 i he
  · obtain rfl : i = xs.length := by omega
    rw [List.getElem_append_right (Nat.le_refl _)]
    rw [show xs.length * d.sz = cells.length from h.1.symm, List.drop_left, List.take_of_length_le (by omega)]
    simpa using hx
/-- A slice of the call's own. -/
def Own (d : Kd α) (e : TypeId) (w : World) (base : Nat) (ok : Nat → Prop) (v : Value) (xs : List α) : Prop :=
  ∃ cells, w.ownsRow base e d.sz v xs.length cells ∧ Says d w ok xs cells
theorem Own.nil (d : Kd α) (e : TypeId) (w : World) (base : Nat) (ok : Nat → Prop) : Own d e w base ok (.slice none 0 0) ([] : List α) := ⟨[], World.ownsRow_nil _ _ _ _, Says.nil _ _ _⟩
theorem Own.slice (h : Own d e w base ok v xs) : ∃ A c, v = .slice A xs.length c ∧ xs.length ≤ c := by
  obtain ⟨cells, ⟨_, ⟨rfl, hn⟩ | ⟨g, cap, cur, rfl, _, _, hl, _⟩⟩, _⟩ := h
  · exact ⟨_, _, by rw [hn], by omega⟩
  · exact ⟨_, _, rfl, hl⟩
/-- It reads as a row. -/
theorem Own.row (h : Own d e w base ok v xs) {ok' : Nat → Prop} (h1 : ∀ k, ok k → ok' k) (h2 : ∀ k, v.ownBlock = some k → ok' k) : ∃ A c, v = .slice A xs.length c ∧ xs.length ≤ c ∧ Row d w ok' A xs := by
  obtain ⟨cells, ⟨hcl, ⟨rfl, hn⟩ | ⟨g, cap, cur, rfl, hb, hh, hl, hm, hs, ht⟩⟩, hr⟩ := h
  · obtain rfl := List.length_eq_zero_iff.1 hn
    exact ⟨_, _, rfl, by simp, Row.nil _ _ _ _⟩
  · refine ⟨_, _, rfl, hl, Nat.le_trans hl hm, ?_⟩
    by_cases he : xs = []
    · exact .inl he
    refine .inr ⟨g, 0, rfl, h2 g rfl, (Array.getElem?_eq_some_iff.1 hh).1, fun i hi => ⟨_, d.mono h1 (hr.2 i hi), fun j u hj => ?_⟩⟩
    rw [List.getElem?_take] at hj
    split at hj
    · rename_i hjs
      rw [List.getElem?_drop, ← ht, List.getElem?_take] at hj
      split at hj
      · rw [cell_of_row _ _ _ _ _ _ hh, Nat.zero_add, ← hj, Array.getElem?_toList]
      · cases hj
    · cases hj
theorem Own.base_le (h : Own d e w base ok v xs) : ∀ k, v.ownBlock = some k → base ≤ k ∧ k < w.heap.size := by
  obtain ⟨cells, ho, _⟩ := h
  exact ho.lt
theorem Own.agree (h : Own d e w base ok v xs) (hs : ∀ k, ok k → k < w.heap.size → w1.heap[k]? = w.heap[k]?) (hv : ∀ k, v.ownBlock = some k → w1.heap[k]? = w.heap[k]?) : Own d e w1 base ok v xs := by
  obtain ⟨cells, ⟨hcl, hh⟩, hr⟩ := h
  refine ⟨cells, ⟨hcl, ?_⟩, hr.agree hs⟩
  rcases hh with hh | ⟨g, cap, cur, rfl, hb, hh, hl⟩
  · exact .inl hh
  · exact .inr ⟨g, cap, cur, rfl, hb, (hv g rfl).trans hh, hl⟩
theorem Own.mono (h : Own d e w base ok v xs) (hok : ∀ k, ok k → ok' k) : Own d e w base ok' v xs := by
  obtain ⟨cells, ho, hr⟩ := h
  exact ⟨cells, ho, hr.mono hok⟩
theorem Own.bound (h : Own d e w base ok v xs) : Own d e w base (fun k => ok k ∧ k < w.heap.size) v xs := by
  obtain ⟨cells, ho, hr⟩ := h
  exact ⟨cells, ho, hr.bound⟩
theorem Own.below (h : Own d e w base ok v xs) (hb : Below w.heap.size w w1) : Own d e w1 base ok v xs :=
  h.agree (fun k _ hlt => hb.block k hlt) (fun k hk => hb.block k (h.base_le k hk).2)
/-- A row of one-cell elements that is being filled: the first j are there. -/
def Fill (d : Kd α) (w : World) (ok : Nat → Prop) (xs : List α) (j : Nat) (cells : List Value) : Prop :=
  cells.length = xs.length ∧ ∀ i (hi : i < xs.length), i < j → ∃ u, cells[i]? = some u ∧ d.K w ok (xs[i]'hi) [u]
theorem Fill.start (d : Kd α) (w : World) (ok : Nat → Prop) (h : cells.length = xs.length) : Fill d w ok xs 0 cells := ⟨h, fun _ _ hj => absurd hj (Nat.not_lt_zero _)⟩
theorem Fill.agree {j : Nat} (h : Fill d w ok xs j cells) (hs : ∀ k, ok k → k < w.heap.size → w1.heap[k]? = w.heap[k]?) : Fill d w1 ok xs j cells :=
  ⟨h.1, fun i hi hj => by obtain ⟨u, hu, hk⟩ := h.2 i hi hj; exact ⟨u, hu, d.agree hs hk⟩⟩
theorem Fill.step {j : Nat} {u : Value} (h : Fill d w ok xs j cells) (hj : j < xs.length) (hk : d.K w ok (xs[j]'hj) [u]) : Fill d w ok xs (j + 1) (cells.set j u) := by
  refine ⟨by rw [List.length_set]; exact h.1, fun i hi hij => ?_⟩
  by_cases e : i = j
  · subst e
    exact ⟨u, by rw [List.getElem?_set_self (by rw [h.1]; exact hi)], hk⟩
  · obtain ⟨u', hu', hk'⟩ := h.2 i hi (by omega)
    exact ⟨u', by rw [List.getElem?_set_ne (by omega)]; exact hu', hk'⟩
theorem Fill.done {j : Nat} (h : Fill d w ok xs j cells) (hj : xs.length ≤ j) (hs : d.sz = 1) : Says d w ok xs cells := by
  refine ⟨by rw [h.1, hs]; omega, fun i hi => ?_⟩
  obtain ⟨u, hu, hk⟩ := h.2 i hi (by omega)
  have hic : i < cells.length := by rw [h.1]; exact hi
  rw [List.getElem?_eq_getElem hic] at hu
  injection hu with hu
  rw [hs, Nat.mul_one, List.drop_eq_getElem_cons hic, hu]
  exact hk
theorem below_alloc {w W : World} (h : Below w.heap.size w W) (o : Obj) : Below w.heap.size w (W.alloc o) := h.alloc h.size o
theorem below_drew {w W : World} (h : Below w.heap.size w W) : Below w.heap.size w W.drew := h.drew
theorem below_drewN {w W : World} (h : Below w.heap.size w W) (n : Nat) : Below w.heap.size w (W.drewN n) := ⟨h.os, h.tape, h.output, h.size, h.block⟩
theorem own_below {size n : Nat} (h : w.ownsRow base e size v n cells) (hb : Below w.heap.size w w1) : w1.ownsRow base e size v n cells := by
  obtain ⟨hcl, hh⟩ := h
  refine ⟨hcl, ?_⟩
  rcases hh with hh | ⟨g, cap, cur, rfl, hb', hh, hl⟩
  · exact .inl hh
  · exact .inr ⟨g, cap, cur, rfl, hb', (hb.block g (Array.getElem?_eq_some_iff.1 hh).1).trans hh, hl⟩
theorem below_setNew {w w1 : World} {g j : Nat} {u : Value} (h : Below w.heap.size w w1) (hg : w.heap.size ≤ g) : Below w.heap.size w (w1.setCell ⟨g, j, none⟩ u) := h.setCell hg _
theorem below_then {w w1 w2 : World} (h : Below w.heap.size w w1) (k : Below w1.heap.size w1 w2) : Below w.heap.size w w2 := h.trans (k.mono h.size)
theorem bcell {W w1 : World} (hb : Below W.heap.size W w1) : (∀ b o, b < W.heap.size → w1.cell? ⟨b, o, none⟩ = W.cell? ⟨b, o, none⟩) ∧ (∀ b o, b < W.heap.size → w1.frozen? ⟨b, o, none⟩ = W.frozen? ⟨b, o, none⟩) :=
  ⟨fun b o h => hb.cell (p := ⟨b, o, none⟩) h, fun b o h => hb.frozen (p := ⟨b, o, none⟩) h⟩
end
/-! ### the first of which something holds -/
def idxB (p : α → Bool) : List α → Int
  | [] => -1
  | x :: xs => if p x then 0 else if idxB p xs < 0 then -1 else idxB p xs + 1
theorem idxB_ge (p : α → Bool) (xs : List α) : -1 ≤ idxB p xs := by
  induction xs with
  | nil => simp [idxB]
  | cons x xs ih => simp only [idxB]; split; · omega
                    split <;> omega
theorem idxB_miss (p : α → Bool) (xs : List α) (h : ∀ y ∈ xs, p y = false) : idxB p xs = -1 := by
  induction xs with
  | nil => rfl
  | cons x xs ih => simp [idxB, h x (by simp), ih (fun y hy => h y (by simp [hy]))]
theorem idxB_hit (p : α → Bool) (xs : List α) (j : Nat) (hj : j < xs.length) (h : ∀ y ∈ xs.take j, p y = false) (hp : p (xs[j]'hj) = true) : idxB p xs = j := by
  induction xs generalizing j with
  | nil => exact absurd hj (Nat.not_lt_zero _)
  | cons x xs ih =>
    cases j with
    | zero => simp only [List.getElem_cons_zero] at hp; simp [idxB, hp]
    | succ j =>
      have h1 := ih j (by simpa using hj) (fun y hy => h y (by simp [hy])) (by simpa using hp)
      simp only [idxB, h x (by simp), h1]
      simp
      omega
theorem idxB_any (p : α → Bool) (xs : List α) : decide (0 ≤ idxB p xs) = xs.any p := by
  induction xs with
  | nil => rfl
  | cons x xs ih =>
    have := idxB_ge p xs
    simp only [idxB, List.any_cons, ← ih]
    by_cases h : p x = true
    · simp [h]
    · simp only [h]
      by_cases h2 : idxB p xs < 0
      · simp [h2] <;> omega
      · simp [h2] <;> omega
theorem take_miss {p : α → Bool} {xs : List α} {j : Nat} (hj : j < xs.length) (h : ∀ y ∈ xs.take j, p y = false) (hp : p (xs[j]'hj) = false) : ∀ y ∈ xs.take (j + 1), p y = false := by
  intro y hy
  rw [List.take_succ_eq_append_getElem hj, List.mem_append, List.mem_singleton] at hy
  rcases hy with hy | rfl
  · exact h y hy
  · exact hp
theorem take_all {P : α → Prop} {xs : List α} {j : Nat} (hj : j < xs.length) (h : ∀ y ∈ xs.take j, P y) (hp : P (xs[j]'hj)) : ∀ y ∈ xs.take (j + 1), P y := by
  intro y hy
  rw [List.take_succ_eq_append_getElem hj, List.mem_append, List.mem_singleton] at hy
  rcases hy with hy | rfl
  · exact h y hy
  · exact hp
end Go.Proofs.YtpcklgkpjmmakaaGreatDoor
end
section
/- One block of the call's own changes, and new ones. -/
namespace Go.Proofs.YtpcklgkpjmmakaaGreatDoor
open Go.RowKit
set_option linter.unusedVariables false
/-- Only block g and new ones change. -/
structure Moved (g : Nat) (w w' : World) : Prop where
  os : w'.os = w.os
  tape : w'.tape = w.tape
  output : w'.output = w.output
  size : w.heap.size ≤ w'.heap.size
  block : ∀ k, k < w.heap.size → k ≠ g → w'.heap[k]? = w.heap[k]?
theorem Moved.refl (g : Nat) (w : World) : Moved g w w := ⟨rfl, rfl, rfl, Nat.le_refl _, fun _ _ _ => rfl⟩
theorem Moved.trans {g : Nat} {a b c : World} (h : Moved g a b) (k : Moved g b c) : Moved g a c :=
  ⟨k.os.trans h.os, k.tape.trans h.tape, k.output.trans h.output, Nat.le_trans h.size k.size, fun j hj hne => (k.block j (Nat.lt_of_lt_of_le hj h.size) hne).trans (h.block j hj hne)⟩
theorem Moved.of {g : Nat} {w w' : World} (h : Below w.heap.size w w') : Moved g w w' := ⟨h.os, h.tape, h.output, h.size, fun k hk _ => h.block k hk⟩
theorem Moved.then {g : Nat} {a b c : World} (h : Moved g a b) (k : Below b.heap.size b c) : Moved g a c := h.trans (.of k)
theorem Moved.alloc {g : Nat} {a b : World} (h : Moved g a b) (o : Obj) : Moved g a (b.alloc o) := h.then (below_alloc (Below.refl _ _) o)
theorem Moved.drew {g : Nat} {a b : World} (h : Moved g a b) : Moved g a b.drew := h.then (below_drew (Below.refl _ _))
theorem Moved.drewN {g : Nat} {a b : World} (h : Moved g a b) (n : Nat) : Moved g a (b.drewN n) := h.then (below_drewN (Below.refl _ _) n)
theorem Moved.set {g o : Nat} {a b : World} {u : Value} (h : Moved g a b) : Moved g a (b.setCell ⟨g, o, none⟩ u) :=
  h.trans ⟨rfl, rfl, rfl, by simp [World.setCell], fun k _ hne => Below.heap_setCell _ _ _ _ hne⟩
theorem Moved.below {g n : Nat} {w w' : World} (h : Moved g w w') (hg : n ≤ g) (hn : n ≤ w.heap.size) : Below n w w' :=
  ⟨h.os, h.tape, h.output, h.size, fun k hk => h.block k (by omega) (by omega)⟩
end Go.Proofs.YtpcklgkpjmmakaaGreatDoor
end
section
/- Regions that draw their order, over the class of the worlds that keep what there is: loads of old cells, callees that make memory. -/
namespace Go.Proofs.YtpcklgkpjmmakaaGreatDoor
open Go.RowKit
/-- A world behind w in which all blocks of w are as they were. -/
structure Later (w : World) where
  W : World
  h : Below w.heap.size w W
instance (w : World) : Nonempty (Later w) := ⟨⟨w, Below.refl _ _⟩⟩
theorem wp_region_later {P : Program} {id : Nat} {Q : Exit → Act → World → Prop} {a : Act} {w : World} {l : List Oper} (hm : P.follows .mixedOrders = true) (hB : Region.lexB .any l.toArray = true)
    (h : wpQuiet P l.toArray (fun w' => ∃ x : Later w, w' = x.W) (fun a' => ∀ w', (∃ x : Later w, w' = x.W) → Q .normal a' w') l a) : (Code.region id l.toArray true).wp P Q a w :=
  wp_region_quiet (C := fun w' => ∃ x : Later w, w' = x.W) hm hB ⟨⟨{ w with drawn := w.drawn + 1 }, ⟨rfl, rfl, rfl, Nat.le_refl _, fun _ _ => rfl⟩⟩, rfl⟩ (by simpa using h)
theorem later_call {P : Program} {f : FuncId} {args : Array Value} {w : World} {v : Value} {x : Later w} (h : Calls P f args x.W fun e w' => e = .returned v ∧ Below x.W.heap.size x.W w') :
    Calls P f args x.W fun e w'' => e = .returned v ∧ ∃ y : Later w, w'' = y.W := h.mono fun _ w' ⟨he, hb⟩ => ⟨he, ⟨w', below_then x.h hb⟩, rfl⟩
theorem later_cell {w : World} {b o : Nat} {v : Value} (h : w.cell? ⟨b, o, none⟩ = some v) (hb : b < w.heap.size) : ∀ x : Later w, x.W.cell? ⟨b, o, none⟩ = some v := fun x => ((bcell x.h).1 b o hb).trans h
end Go.Proofs.YtpcklgkpjmmakaaGreatDoor
end
