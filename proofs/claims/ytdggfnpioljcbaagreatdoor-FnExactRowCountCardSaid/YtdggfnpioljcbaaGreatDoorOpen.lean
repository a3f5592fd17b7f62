/- From what the row reads (DataW.trod) to kinds: ints, strings, slices, structs of one-cell fields. -/
import Derived.Test.YtdggfnpioljcbaaGreatDoorKit
import Derived.ChangeSame
import Derived.ChangeArms
import Derived.DataReads
import Derived.Deep.Slices
namespace Go.Proofs.YtdggfnpioljcbaaGreatDoor
open Go.RowKit Go.ChangeShapes
variable {α : Type} {H : Type} {enc : TypeId × Value → H} {P : Program} {w : World}

/-- Whatever is read at type t with so much fuel says a datum of the kind. -/
def Opens (enc : TypeId × Value → H) (P : Program) (w : World) (fuel : Nat) (t : TypeId) (d : Kd α) : Prop :=
  ∀ cs x, DataW.trod enc P w 0 (fun _ => true) true fuel t cs = some x → ∃ v : α, d.K w (fun _ => True) v cs
theorem opens_int {fuel : Nat} {t : TypeId} {k : IntKind} (ht : P.underlying t = some (.int k)) : Opens enc P w fuel t (Kd.int k) := by
  intro cs x h
  obtain ⟨n, rfl, _, _⟩ := DataW.trod_int ht h
  exact ⟨n, rfl⟩
theorem opens_str {fuel : Nat} {t : TypeId} (ht : P.underlying t = some .string) : Opens enc P w fuel t Kd.str := by
  intro cs x h
  obtain ⟨n, rfl, _, _⟩ := DataW.trod_string ht h
  exact ⟨n, rfl⟩
theorem opens_slice {fuel : Nat} {t e : TypeId} {d : Kd α} (ht : P.underlying t = some (.slice e)) (hc : P.cellsOf e = d.sz) (hz : 0 < d.sz) (hd : ∀ n, fuel = n + 1 → Opens enc P w n e d) : Opens enc P w fuel t (Kd.slice d) := by
  intro cs x h
  rcases DataW.trod_slice ht h with ⟨rfl, _⟩ | ⟨a, len, cap, elems, rest, n, hf, rfl, _, _, hl, hm, hlen, hel, _, _⟩
  · exact ⟨[], none, 0, rfl, Nat.le_refl _, Row.nil _ _ _ _⟩
  · have each : ∀ i, i < len → ∃ q : α × List Value, d.K w (fun _ => True) q.1 q.2 ∧ ∀ j v, q.2[j]? = some v → w.cell? ((a.add (i * d.sz)).add j) = some v := by
      intro i hi
      have h1 := hel i hi
      rw [List.getElem?_eq_getElem (by omega), Option.bind_eq_some_iff] at h1
      obtain ⟨cs', h2, h3⟩ := h1
      obtain ⟨v, hv⟩ := hd n hf _ _ h3
      obtain ⟨_, h4, h5⟩ := World.cells?_some h2
      refine ⟨⟨v, cs'⟩, hv, fun j u hj => ?_⟩
      have hjl : j < cs'.length := (List.getElem?_eq_some_iff.1 hj).1
      rw [← hc, h5 j (by rw [← h4]; exact hjl)]; exact hj
    have ch : ∃ f : Fin len → α × List Value, ∀ i, d.K w (fun _ => True) (f i).1 (f i).2 ∧ ∀ j v, (f i).2[j]? = some v → w.cell? ((a.add (i.val * d.sz)).add j) = some v :=
      ⟨fun i => Classical.choose (each i.val i.isLt), fun i => Classical.choose_spec (each i.val i.isLt)⟩
    obtain ⟨f, hf'⟩ := ch
    refine ⟨List.ofFn (fun i => (f i).1), some a, cap, by rw [List.length_ofFn], by rw [List.length_ofFn]; exact hl, by rw [List.length_ofFn]; exact Nat.le_trans hl hm, ?_⟩
    by_cases h0 : len = 0
    · subst h0; exact .inl (by simp)
    · refine .inr ?_
      have hk0 := hf' ⟨0, by omega⟩
      have hl0 := d.len hk0.1
      have hc0 := hk0.2 0 _ (List.getElem?_eq_getElem (by omega))
      have hs : a.spot = none := by
        rw [show ((⟨0, by omega⟩ : Fin len).val * d.sz) = 0 from by simp] at hc0
        simp only [Addr.add, if_true] at hc0
        unfold World.cell? at hc0
        split at hc0
        · cases hsp : a.spot with
          | none => rfl
          | some s => rw [hsp] at hc0; simp at hc0
        · cases hc0
      obtain ⟨b, o, sp⟩ := a
      simp only at hs
      subst hs
      have hlt : b < w.heap.size := by
        have := World.block_lt_of_cell? w _ hc0
        simpa [Addr.add] using this
      have hadd : ∀ m j, ((⟨b, o, none⟩ : Addr).add m).add j = ⟨b, o + m + j, none⟩ := by
        intro m j
        simp only [Addr.add]
        split <;> split <;> simp_all
      refine ⟨b, o, rfl, trivial, hlt, fun i hi => ?_⟩
      rw [List.length_ofFn] at hi
      have hk := hf' ⟨i, hi⟩
      refine ⟨(f ⟨i, hi⟩).2, by rw [List.getElem_ofFn]; exact hk.1, fun j v hj => ?_⟩
      rw [← hadd]; exact hk.2 j v hj
/-- A struct of two fields. -/
theorem opens_two {β : Type} {fuel : Nat} {t : TypeId} {f0 f1 : Field} {d0 : Kd α} {d1 : Kd β} (ht : P.underlying t = some (.struct #[f0, f1])) (hc : P.cellsOf t = d0.sz + d1.sz) (o0 : f0.offset = 0) (o1 : f1.offset = d0.sz)
    (c0 : P.cellsOf f0.type = d0.sz) (c1 : P.cellsOf f1.type = d1.sz) (h0 : ∀ n, Opens enc P w n f0.type d0) (h1 : ∀ n, Opens enc P w n f1.type d1) : Opens enc P w fuel t (Kd.pair d0 d1) := by
  intro cs x h
  obtain ⟨y0, y1, n, _, hl, g0, g1⟩ := trod_struct2 ht h
  obtain ⟨v0, k0⟩ := h0 _ _ _ g0
  obtain ⟨v1, k1⟩ := h1 _ _ _ g1
  rw [o0, c0, List.drop_zero] at k0
  rw [o1, c1] at k1
  refine ⟨(v0, v1), _, _, ?_, k0, k1⟩
  have e1 : (cs.drop d0.sz).take d1.sz = cs.drop d0.sz := List.take_of_length_le (by rw [List.length_drop]; omega)
  rw [e1, List.take_append_drop]
end Go.Proofs.YtdggfnpioljcbaaGreatDoor
