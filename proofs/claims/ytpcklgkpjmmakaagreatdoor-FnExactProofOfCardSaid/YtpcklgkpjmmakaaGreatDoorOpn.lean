/- Joined: Open, NodeOpen. -/
import Derived.Test.YtpcklgkpjmmakaaGreatDoorBase
import Derived.ChangeSame
import Derived.ChangeArms
import Derived.DataReads
import Derived.Deep.Slices
import Derived.Test.YtpcklgkpjmmakaaGreatDoorSz
import Derived.Test.YtpcklgkpjmmakaaGreatDoorProg
section
/- From what the row reads (DataW.trod) to kinds: ints, strings, slices, structs of one-cell fields. -/
namespace Go.Proofs.YtpcklgkpjmmakaaGreatDoor
open Go.RowKit Go.ChangeShapes
variable {α : Type} {H : Type} {enc : TypeId × Value → H} {P : Program} {w : World}
/-- Whatever is read at type t with so much fuel says a datum of the kind. -/
def Opens (enc : TypeId × Value → H) (P : Program) (w : World) (fuel : Nat) (t : TypeId) (d : Kd α) : Prop :=
  ∀ cs x, DataW.trod enc P w 0 (fun _ => true) true fuel t cs = some x → ∃ v : α, d.K w (fun _ => True) v cs
theorem opens_int {fuel : Nat} {t : TypeId} {k : IntKind} (ht : P.underlying t = some (.int k)) : Opens enc P w fuel t (Kd.int k) := by
  intro cs x h
  obtain ⟨n, rfl, _, _⟩ := DataW.trod_int ht h
  exact ⟨n, rfl⟩
theorem opens_slice {fuel : Nat} {t e : TypeId} {d : Kd α} (ht : P.underlying t = some (.slice e)) (hc : P.cellsOf e = d.sz) (hz : 0 < d.sz) (hd : ∀ n, fuel = n + 1 → Opens enc P w n e d) : Opens enc P w fuel t (Kd.slice d) := by
  intro cs x h
  rcases DataW.trod_slice ht h with ⟨rfl, _⟩ | ⟨a, len, cap, elems, rest, n, hf, rfl, _, _, hl, hm, hlen, hel, _, _⟩
  · exact ⟨[], none, 0, rfl, Nat.le_refl _, Row.nil _ _ _ _⟩
  · have each : ∀ i, i < len → ∃ q : α × List Value, d.K w (fun _ => True) q.1 q.2 ∧ ∀ j v, q.2[j]? = some v → w.cell? ((a.add (i * d.sz)).add j) = some v := by
      intro i hi
      have h1 := hel i hi
      rw [List.getElem?_eq_getElem (by omega), Option.bind_eq_some_iff] at h1
      obtain ⟨cs', h2, h3⟩ := h1
      obtain ⟨v, hv⟩ := hd n hf _ _ h3
      obtain ⟨_, h4, h5⟩ := World.cells?_some h2
      refine ⟨⟨v, cs'⟩, hv, fun j u hj => ?_⟩
      have hjl : j < cs'.length := (List.getElem?_eq_some_iff.1 hj).1
      rw [← hc, h5 j (by rw [← h4]; exact hjl)]; exact hj
    have ch : ∃ f : Fin len → α × List Value, ∀ i, d.K w (fun _ => True) (f i).1 (f i).2 ∧ ∀ j v, (f i).2[j]? = some v → w.cell? ((a.add (i.val * d.sz)).add j) = some v :=
      ⟨fun i => Classical.choose (each i.val i.isLt), fun i => Classical.choose_spec (each i.val i.isLt)⟩
    obtain ⟨f, hf'⟩ := ch
    refine ⟨List.ofFn (fun i => (f i).1), some a, cap, by rw [List.length_ofFn], by rw [List.length_ofFn]; exact hl, by rw [List.length_ofFn]; exact Nat.le_trans hl hm, ?_⟩
    by_cases h0 : len = 0
    · subst h0; exact .inl (by simp)
    · refine .inr ?_
      have hk0 := hf' ⟨0, by omega⟩
      have hl0 := d.len hk0.1
      have hc0 := hk0.2 0 _ (List.getElem?_eq_getElem (by omega))
      have hs : a.spot = none := by
        rw [show ((⟨0, by omega⟩ : Fin len).val * d.sz) = 0 from by simp] at hc0
        simp only [Addr.add, if_true] at hc0
        unfold World.cell? at hc0
        split at hc0
        · cases hsp : a.spot with
          | none => rfl
          | some s => rw [hsp] at hc0; simp at hc0
        · cases hc0
      obtain ⟨b, o, sp⟩ := a
      simp only at hs
      subst hs
      have hlt : b < w.heap.size := by
        have := World.block_lt_of_cell? w _ hc0
        simpa [Addr.add] using this
      have hadd : ∀ m j, ((⟨b, o, none⟩ : Addr).add m).add j = ⟨b, o + m + j, none⟩ := by
        intro m j
        simp only [Addr.add]
        split <;> split <;> simp_all
      refine ⟨b, o, rfl, trivial, hlt, fun i hi => ?_⟩
      rw [List.length_ofFn] at hi
      have hk := hf' ⟨i, hi⟩
      refine ⟨(f ⟨i, hi⟩).2, by rw [List.getElem_ofFn]; exact hk.1, fun j v hj => ?_⟩
      rw [← hadd]; exact hk.2 j v hj
end Go.Proofs.YtpcklgkpjmmakaaGreatDoor
end
section
/- From what a row reads to nodes. -/
namespace Go.Proofs.YtpcklgkpjmmakaaGreatDoor
open Go.RowKit Go.ChangeShapes
set_option linter.unusedVariables false
set_option linter.unusedSimpArgs false
set_option maxRecDepth 100000
variable {H : Type} {enc : TypeId × Value → H} {w : World}
/-- A kind with a fact. -/
def Kd.fact {α : Type} (d : Kd α) (p : α → Prop) : Kd α where
  sz := d.sz
  K := fun w ok x cs => d.K w ok x cs ∧ p x
  len := fun h => d.len h.1
  agree := fun hs h => ⟨d.agree hs h.1, h.2⟩
  mono := fun hs h => ⟨d.mono hs h.1, h.2⟩
  bound := fun h => ⟨d.bound h.1, h.2⟩
theorem row_fact {α : Type} {d : Kd α} {p : α → Prop} {ok : Nat → Prop} {A : Option Addr} {xs : List α} (h : Row (Kd.fact d p) w ok A xs) : Row d w ok A xs ∧ ∀ x ∈ xs, p x := by
  refine ⟨⟨h.1, ?_⟩, fun x hx => ?_⟩
  · rcases h.2 with h | ⟨b, o, hA, hb, hlt, hi⟩
    · exact .inl h
    · exact .inr ⟨b, o, hA, hb, hlt, fun i hi' => by obtain ⟨cs, hk, hc⟩ := hi i hi'; exact ⟨cs, hk.1, hc⟩⟩
  · rcases h.2 with h | ⟨b, o, hA, hb, hlt, hi⟩
    · subst h; cases hx
    · obtain ⟨i, hi', rfl⟩ := List.getElem_of_mem hx
      obtain ⟨cs, hk, hc⟩ := hi i hi'
      exact hk.2
theorem cells2 {cs : List Value} (h : cs.length = 2) : ∃ a b, cs = [a, b] := by
  match cs, h with
  | [a, b], _ => exact ⟨a, b, rfl⟩
theorem cells4 {cs : List Value} (h : cs.length = 4) : ∃ a b c d, cs = [a, b, c, d] := by
  match cs, h with
  | [a, b, c, d], _ => exact ⟨a, b, c, d, rfl⟩
theorem cells8 {cs : List Value} (h : cs.length = 8) : ∃ a b c d e f g i, cs = [a, b, c, d, e, f, g, i] := by
  match cs, h with
  | [a, b, c, d, e, f, g, i], _ => exact ⟨a, b, c, d, e, f, g, i, rfl⟩
theorem field_of {P : Program} {n o T : Nat} {cs : List Value} {v : Value} {xs : List (DataW H × List MemPlace)} {i : Nat} (hi : i < xs.length) (h : DataW.trod enc P w 0 (fun _ => true) true n T ((cs.drop o).take (P.cellsOf T)) = xs[i]?) (hc : P.cellsOf T = 1) (hv : (cs.drop o).take 1 = [v]) :
    ∃ y, DataW.trod enc P w 0 (fun _ => true) true n T [v] = some y := by
  rw [hc, hv, List.getElem?_eq_getElem hi] at h
  exact ⟨_, h⟩
theorem c_string : Tryz.prog.cellsOf 9 = 1 := by kernel_rfl
theorem c_int : Tryz.prog.cellsOf 3 = 1 := by kernel_rfl
theorem c_decls : Tryz.prog.cellsOf 53 = 1 := by kernel_rfl
theorem c_attrs : Tryz.prog.cellsOf 54 = 1 := by kernel_rfl
theorem c_nodes : Tryz.prog.cellsOf 55 = 1 := by kernel_rfl
theorem opens_decl (fuel : Nat) : Opens enc Tryz.prog w fuel 119 (Kd.fact Kd.dcl Dcl.fit) := by
  intro cs x h
  obtain ⟨xs, n, _, _, hl, hlen, hf⟩ := DataW.trod_struct Tryz.underlying119 h
  obtain ⟨a, b, rfl⟩ := cells2 (hl.trans (by kernel_rfl))
  obtain ⟨y0, h0⟩ : ∃ y, DataW.trod enc Tryz.prog w 0 (fun _ => true) true n 9 [a] = some y := field_of (o := 0) (cs := [a, b]) (by rw [hlen]; decide) (hf 0 _ rfl) c_string rfl
  obtain ⟨y1, h1⟩ : ∃ y, DataW.trod enc Tryz.prog w 0 (fun _ => true) true n 9 [b] = some y := field_of (o := 1) (cs := [a, b]) (by rw [hlen]; decide) (hf 1 _ rfl) c_string rfl
  obtain ⟨s0, e0, _, z0⟩ := DataW.trod_string Tryz.underlying9 h0
  obtain ⟨s1, e1, _, z1⟩ := DataW.trod_string Tryz.underlying9 h1
  injection e0 with e0 _; injection e1 with e1 _
  subst e0 e1
  exact ⟨⟨s0, s1⟩, rfl, z0, z1⟩
theorem opens_attr (fuel : Nat) : Opens enc Tryz.prog w fuel 121 (Kd.fact Kd.atr Atr.fit) := by
  intro cs x h
  obtain ⟨xs, n, _, _, hl, hlen, hf⟩ := DataW.trod_struct Tryz.underlying121 h
  obtain ⟨a, b, c, d, rfl⟩ := cells4 (hl.trans (by kernel_rfl))
  obtain ⟨y0, h0⟩ : ∃ y, DataW.trod enc Tryz.prog w 0 (fun _ => true) true n 9 [a] = some y := field_of (o := 0) (cs := [a, b, c, d]) (by rw [hlen]; decide) (hf 0 _ rfl) c_string rfl
  obtain ⟨y1, h1⟩ : ∃ y, DataW.trod enc Tryz.prog w 0 (fun _ => true) true n 9 [b] = some y := field_of (o := 1) (cs := [a, b, c, d]) (by rw [hlen]; decide) (hf 1 _ rfl) c_string rfl
  obtain ⟨y2, h2⟩ : ∃ y, DataW.trod enc Tryz.prog w 0 (fun _ => true) true n 9 [c] = some y := field_of (o := 2) (cs := [a, b, c, d]) (by rw [hlen]; decide) (hf 2 _ rfl) c_string rfl
  obtain ⟨y3, h3⟩ : ∃ y, DataW.trod enc Tryz.prog w 0 (fun _ => true) true n 9 [d] = some y := field_of (o := 3) (cs := [a, b, c, d]) (by rw [hlen]; decide) (hf 3 _ rfl) c_string rfl
  obtain ⟨s0, e0, _, z0⟩ := DataW.trod_string Tryz.underlying9 h0
  obtain ⟨s1, e1, _, z1⟩ := DataW.trod_string Tryz.underlying9 h1
  obtain ⟨s2, e2, _, z2⟩ := DataW.trod_string Tryz.underlying9 h2
  obtain ⟨s3, e3, _, z3⟩ := DataW.trod_string Tryz.underlying9 h3
  injection e0 with e0 _; injection e1 with e1 _; injection e2 with e2 _; injection e3 with e3 _
  subst e0 e1 e2 e3
  exact ⟨⟨s0, s1, s2, s3⟩, rfl, z0, z1, z2, z3⟩
theorem opens_node (fuel : Nat) : Opens enc Tryz.prog w fuel 57 (Kd.fact Kd.node Fit) := by
  induction fuel using Nat.strongRecOn with
  | _ fuel ih =>
  intro cs x h
  obtain ⟨xs, n, hn, _, hl, hlen, hf⟩ := DataW.trod_struct Tryz.underlying57 h
  obtain ⟨a0, a1, a2, a3, a4, a5, a6, a7, rfl⟩ := cells8 (hl.trans (by kernel_rfl))
  obtain ⟨y0, h0⟩ : ∃ y, DataW.trod enc Tryz.prog w 0 (fun _ => true) true n 3 [a0] = some y := field_of (o := 0) (cs := [a0, a1, a2, a3, a4, a5, a6, a7]) (by rw [hlen]; decide) (hf 0 _ rfl) c_int rfl
  obtain ⟨y1, h1⟩ : ∃ y, DataW.trod enc Tryz.prog w 0 (fun _ => true) true n 9 [a1] = some y := field_of (o := 1) (cs := [a0, a1, a2, a3, a4, a5, a6, a7]) (by rw [hlen]; decide) (hf 1 _ rfl) c_string rfl
  obtain ⟨y2, h2⟩ : ∃ y, DataW.trod enc Tryz.prog w 0 (fun _ => true) true n 9 [a2] = some y := field_of (o := 2) (cs := [a0, a1, a2, a3, a4, a5, a6, a7]) (by rw [hlen]; decide) (hf 2 _ rfl) c_string rfl
  obtain ⟨y3, h3⟩ : ∃ y, DataW.trod enc Tryz.prog w 0 (fun _ => true) true n 9 [a3] = some y := field_of (o := 3) (cs := [a0, a1, a2, a3, a4, a5, a6, a7]) (by rw [hlen]; decide) (hf 3 _ rfl) c_string rfl
  obtain ⟨y4, h4⟩ : ∃ y, DataW.trod enc Tryz.prog w 0 (fun _ => true) true n 53 [a4] = some y := field_of (o := 4) (cs := [a0, a1, a2, a3, a4, a5, a6, a7]) (by rw [hlen]; decide) (hf 4 _ rfl) c_decls rfl
  obtain ⟨y5, h5⟩ : ∃ y, DataW.trod enc Tryz.prog w 0 (fun _ => true) true n 54 [a5] = some y := field_of (o := 5) (cs := [a0, a1, a2, a3, a4, a5, a6, a7]) (by rw [hlen]; decide) (hf 5 _ rfl) c_attrs rfl
  obtain ⟨y6, h6⟩ : ∃ y, DataW.trod enc Tryz.prog w 0 (fun _ => true) true n 55 [a6] = some y := field_of (o := 6) (cs := [a0, a1, a2, a3, a4, a5, a6, a7]) (by rw [hlen]; decide) (hf 6 _ rfl) c_nodes rfl
  obtain ⟨y7, h7⟩ : ∃ y, DataW.trod enc Tryz.prog w 0 (fun _ => true) true n 9 [a7] = some y := field_of (o := 7) (cs := [a0, a1, a2, a3, a4, a5, a6, a7]) (by rw [hlen]; decide) (hf 7 _ rfl) c_string rfl
  obtain ⟨k, e0, _, _⟩ := DataW.trod_int Tryz.underlying3 h0
  obtain ⟨s1, e1, _, z1⟩ := DataW.trod_string Tryz.underlying9 h1
  obtain ⟨s2, e2, _, z2⟩ := DataW.trod_string Tryz.underlying9 h2
  obtain ⟨s3, e3, _, z3⟩ := DataW.trod_string Tryz.underlying9 h3
  obtain ⟨s7, e7, _, z7⟩ := DataW.trod_string Tryz.underlying9 h7
  obtain ⟨ds, Ad, cd, e4, ld, rd⟩ := opens_slice (d := Kd.fact Kd.dcl Dcl.fit) Tryz.underlying53 (by kernel_rfl) (by decide) (fun m _ => opens_decl m) _ _ h4
  obtain ⟨as', Aa, ca, e5, la, ra⟩ := opens_slice (d := Kd.fact Kd.atr Atr.fit) Tryz.underlying54 (by kernel_rfl) (by decide) (fun m _ => opens_attr m) _ _ h5
  obtain ⟨ks, Ak, ck, e6, lk, rk⟩ := opens_slice (d := Kd.fact Kd.node Fit) Tryz.underlying55 (by kernel_rfl) (by decide) (fun m hm => ih m (by omega)) _ _ h6
  injection e0 with e0 _; injection e1 with e1 _; injection e2 with e2 _; injection e3 with e3 _; injection e4 with e4 _; injection e5 with e5 _; injection e6 with e6 _; injection e7 with e7 _
  subst e0 e1 e2 e3 e4 e5 e6 e7
  obtain ⟨rd, fd⟩ := row_fact rd
  obtain ⟨ra, fa⟩ := row_fact ra
  obtain ⟨rk, fk⟩ := row_fact rk
  exact ⟨⟨k, s1, s2, s3, ds, as', ks, s7⟩, (NodeIs.k (n := ⟨k, s1, s2, s3, ds, as', ks, s7⟩) (s := ⟨Ad, cd, Aa, ca, Ak, ck⟩) ⟨ld, rd, la, ra, lk, rk⟩), .mk _ z1 z2 z3 z7 fd fa fk⟩
end Go.Proofs.YtpcklgkpjmmakaaGreatDoor
end
