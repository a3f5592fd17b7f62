/- From what a row reads to nodes. -/
import Derived.Test.YtdggfnpioljcbaaGreatDoorOpen
import Derived.Test.YtdggfnpioljcbaaGreatDoorSz
import Derived.Test.YtdggfnpioljcbaaGreatDoorProg
namespace Go.Proofs.YtdggfnpioljcbaaGreatDoor
open Go.RowKit Go.ChangeShapes
set_option linter.unusedVariables false
set_option linter.unusedSimpArgs false
set_option maxRecDepth 100000
variable {H : Type} {enc : TypeId × Value → H} {w : World}
/-- A kind with a fact. -/
def Kd.fact {α : Type} (d : Kd α) (p : α → Prop) : Kd α where
  sz := d.sz
  K := fun w ok x cs => d.K w ok x cs ∧ p x
  len := fun h => d.len h.1
  agree := fun hs h => ⟨d.agree hs h.1, h.2⟩
  mono := fun hs h => ⟨d.mono hs h.1, h.2⟩
  bound := fun h => ⟨d.bound h.1, h.2⟩
theorem row_fact {α : Type} {d : Kd α} {p : α → Prop} {ok : Nat → Prop} {A : Option Addr} {xs : List α} (h : Row (Kd.fact d p) w ok A xs) : Row d w ok A xs ∧ ∀ x ∈ xs, p x := by
  refine ⟨⟨h.1, ?_⟩, fun x hx => ?_⟩
  · rcases h.2 with h | ⟨b, o, hA, hb, hlt, hi⟩
    · exact .inl h
    · exact .inr ⟨b, o, hA, hb, hlt, fun i hi' => by obtain ⟨cs, hk, hc⟩ := hi i hi'; exact ⟨cs, hk.1, hc⟩⟩
  · rcases h.2 with h | ⟨b, o, hA, hb, hlt, hi⟩
    · subst h; cases hx
    · obtain ⟨i, hi', rfl⟩ := List.getElem_of_mem hx
      obtain ⟨cs, hk, hc⟩ := hi i hi'
      exact hk.2
theorem cells2 {cs : List Value} (h : cs.length = 2) : ∃ a b, cs = [a, b] := by
  match cs, h with
  | [a, b], _ => exact ⟨a, b, rfl⟩
theorem cells4 {cs : List Value} (h : cs.length = 4) : ∃ a b c d, cs = [a, b, c, d] := by
  match cs, h with
  | [a, b, c, d], _ => exact ⟨a, b, c, d, rfl⟩
theorem cells8 {cs : List Value} (h : cs.length = 8) : ∃ a b c d e f g i, cs = [a, b, c, d, e, f, g, i] := by
  match cs, h with
  | [a, b, c, d, e, f, g, i], _ => exact ⟨a, b, c, d, e, f, g, i, rfl⟩
theorem field_of {P : Program} {n o T : Nat} {cs : List Value} {v : Value} {xs : List (DataW H × List MemPlace)} {i : Nat} (hi : i < xs.length) (h : DataW.trod enc P w 0 (fun _ => true) true n T ((cs.drop o).take (P.cellsOf T)) = xs[i]?) (hc : P.cellsOf T = 1) (hv : (cs.drop o).take 1 = [v]) :
    ∃ y, DataW.trod enc P w 0 (fun _ => true) true n T [v] = some y := by
  rw [hc, hv, List.getElem?_eq_getElem hi] at h
  exact ⟨_, h⟩
theorem c_string : Tryz.prog.cellsOf 9 = 1 := by kernel_rfl
theorem c_int : Tryz.prog.cellsOf 3 = 1 := by kernel_rfl
theorem c_decls : Tryz.prog.cellsOf 22 = 1 := by kernel_rfl
theorem c_attrs : Tryz.prog.cellsOf 23 = 1 := by kernel_rfl
theorem c_nodes : Tryz.prog.cellsOf 24 = 1 := by kernel_rfl
theorem opens_decl (fuel : Nat) : Opens enc Tryz.prog w fuel 167 (Kd.fact Kd.dcl Dcl.fit) := by
  intro cs x h
  obtain ⟨xs, n, _, _, hl, hlen, hf⟩ := DataW.trod_struct Tryz.underlying167 h
  obtain ⟨a, b, rfl⟩ := cells2 (hl.trans (by kernel_rfl))
  obtain ⟨y0, h0⟩ : ∃ y, DataW.trod enc Tryz.prog w 0 (fun _ => true) true n 9 [a] = some y := field_of (o := 0) (cs := [a, b]) (by rw [hlen]; decide) (hf 0 _ rfl) c_string rfl
  obtain ⟨y1, h1⟩ : ∃ y, DataW.trod enc Tryz.prog w 0 (fun _ => true) true n 9 [b] = some y := field_of (o := 1) (cs := [a, b]) (by rw [hlen]; decide) (hf 1 _ rfl) c_string rfl
  obtain ⟨s0, e0, _, z0⟩ := DataW.trod_string Tryz.underlying9 h0
  obtain ⟨s1, e1, _, z1⟩ := DataW.trod_string Tryz.underlying9 h1
  injection e0 with e0 _; injection e1 with e1 _
  subst e0 e1
  exact ⟨⟨s0, s1⟩, rfl, z0, z1⟩
theorem opens_attr (fuel : Nat) : Opens enc Tryz.prog w fuel 170 (Kd.fact Kd.atr Atr.fit) := by
  intro cs x h
  obtain ⟨xs, n, _, _, hl, hlen, hf⟩ := DataW.trod_struct Tryz.underlying170 h
  obtain ⟨a, b, c, d, rfl⟩ := cells4 (hl.trans (by kernel_rfl))
  obtain ⟨y0, h0⟩ : ∃ y, DataW.trod enc Tryz.prog w 0 (fun _ => true) true n 9 [a] = some y := field_of (o := 0) (cs := [a, b, c, d]) (by rw [hlen]; decide) (hf 0 _ rfl) c_string rfl
  obtain ⟨y1, h1⟩ : ∃ y, DataW.trod enc Tryz.prog w 0 (fun _ => true) true n 9 [b] = some y := field_of (o := 1) (cs := [a, b, c, d]) (by rw [hlen]; decide) (hf 1 _ rfl) c_string rfl
  obtain ⟨y2, h2⟩ : ∃ y, DataW.trod enc Tryz.prog w 0 (fun _ => true) true n 9 [c] = some y := field_of (o := 2) (cs := [a, b, c, d]) (by rw [hlen]; decide) (hf 2 _ rfl) c_string rfl
  obtain ⟨y3, h3⟩ : ∃ y, DataW.trod enc Tryz.prog w 0 (fun _ => true) true n 9 [d] = some y := field_of (o := 3) (cs := [a, b, c, d]) (by rw [hlen]; decide) (hf 3 _ rfl) c_string rfl
  obtain ⟨s0, e0, _, z0⟩ := DataW.trod_string Tryz.underlying9 h0
  obtain ⟨s1, e1, _, z1⟩ := DataW.trod_string Tryz.underlying9 h1
  obtain ⟨s2, e2, _, z2⟩ := DataW.trod_string Tryz.underlying9 h2
  obtain ⟨s3, e3, _, z3⟩ := DataW.trod_string Tryz.underlying9 h3
  injection e0 with e0 _; injection e1 with e1 _; injection e2 with e2 _; injection e3 with e3 _
  subst e0 e1 e2 e3
  exact ⟨⟨s0, s1, s2, s3⟩, rfl, z0, z1, z2, z3⟩
theorem opens_node (fuel : Nat) : Opens enc Tryz.prog w fuel 26 (Kd.fact Kd.node Fit) := by
  induction fuel using Nat.strongRecOn with
  | _ fuel ih =>
  intro cs x h
  obtain ⟨xs, n, hn, _, hl, hlen, hf⟩ := DataW.trod_struct Tryz.underlying26 h
  obtain ⟨a0, a1, a2, a3, a4, a5, a6, a7, rfl⟩ := cells8 (hl.trans (by kernel_rfl))
  obtain ⟨y0, h0⟩ : ∃ y, DataW.trod enc Tryz.prog w 0 (fun _ => true) true n 3 [a0] = some y := field_of (o := 0) (cs := [a0, a1, a2, a3, a4, a5, a6, a7]) (by rw [hlen]; decide) (hf 0 _ rfl) c_int rfl
  obtain ⟨y1, h1⟩ : ∃ y, DataW.trod enc Tryz.prog w 0 (fun _ => true) true n 9 [a1] = some y := field_of (o := 1) (cs := [a0, a1, a2, a3, a4, a5, a6, a7]) (by rw [hlen]; decide) (hf 1 _ rfl) c_string rfl
  obtain ⟨y2, h2⟩ : ∃ y, DataW.trod enc Tryz.prog w 0 (fun _ => true) true n 9 [a2] = some y := field_of (o := 2) (cs := [a0, a1, a2, a3, a4, a5, a6, a7]) (by rw [hlen]; decide) (hf 2 _ rfl) c_string rfl
  obtain ⟨y3, h3⟩ : ∃ y, DataW.trod enc Tryz.prog w 0 (fun _ => true) true n 9 [a3] = some y := field_of (o := 3) (cs := [a0, a1, a2, a3, a4, a5, a6, a7]) (by rw [hlen]; decide) (hf 3 _ rfl) c_string rfl
  obtain ⟨y4, h4⟩ : ∃ y, DataW.trod enc Tryz.prog w 0 (fun _ => true) true n 22 [a4] = some y := field_of (o := 4) (cs := [a0, a1, a2, a3, a4, a5, a6, a7]) (by rw [hlen]; decide) (hf 4 _ rfl) c_decls rfl
  obtain ⟨y5, h5⟩ : ∃ y, DataW.trod enc Tryz.prog w 0 (fun _ => true) true n 23 [a5] = some y := field_of (o := 5) (cs := [a0, a1, a2, a3, a4, a5, a6, a7]) (by rw [hlen]; decide) (hf 5 _ rfl) c_attrs rfl
  obtain ⟨y6, h6⟩ : ∃ y, DataW.trod enc Tryz.prog w 0 (fun _ => true) true n 24 [a6] = some y := field_of (o := 6) (cs := [a0, a1, a2, a3, a4, a5, a6, a7]) (by rw [hlen]; decide) (hf 6 _ rfl) c_nodes rfl
  obtain ⟨y7, h7⟩ : ∃ y, DataW.trod enc Tryz.prog w 0 (fun _ => true) true n 9 [a7] = some y := field_of (o := 7) (cs := [a0, a1, a2, a3, a4, a5, a6, a7]) (by rw [hlen]; decide) (hf 7 _ rfl) c_string rfl
  obtain ⟨k, e0, _, _⟩ := DataW.trod_int Tryz.underlying3 h0
  obtain ⟨s1, e1, _, z1⟩ := DataW.trod_string Tryz.underlying9 h1
  obtain ⟨s2, e2, _, z2⟩ := DataW.trod_string Tryz.underlying9 h2
  obtain ⟨s3, e3, _, z3⟩ := DataW.trod_string Tryz.underlying9 h3
  obtain ⟨s7, e7, _, z7⟩ := DataW.trod_string Tryz.underlying9 h7
  obtain ⟨ds, Ad, cd, e4, ld, rd⟩ := opens_slice (d := Kd.fact Kd.dcl Dcl.fit) Tryz.underlying22 (by kernel_rfl) (by decide) (fun m _ => opens_decl m) _ _ h4
  obtain ⟨as', Aa, ca, e5, la, ra⟩ := opens_slice (d := Kd.fact Kd.atr Atr.fit) Tryz.underlying23 (by kernel_rfl) (by decide) (fun m _ => opens_attr m) _ _ h5
  obtain ⟨ks, Ak, ck, e6, lk, rk⟩ := opens_slice (d := Kd.fact Kd.node Fit) Tryz.underlying24 (by kernel_rfl) (by decide) (fun m hm => ih m (by omega)) _ _ h6
  injection e0 with e0 _; injection e1 with e1 _; injection e2 with e2 _; injection e3 with e3 _; injection e4 with e4 _; injection e5 with e5 _; injection e6 with e6 _; injection e7 with e7 _
  subst e0 e1 e2 e3 e4 e5 e6 e7
  obtain ⟨rd, fd⟩ := row_fact rd
  obtain ⟨ra, fa⟩ := row_fact ra
  obtain ⟨rk, fk⟩ := row_fact rk
  exact ⟨⟨k, s1, s2, s3, ds, as', ks, s7⟩, (NodeIs.k (n := ⟨k, s1, s2, s3, ds, as', ks, s7⟩) (s := ⟨Ad, cd, Aa, ca, Ak, ck⟩) ⟨ld, rd, la, ra, lk, rk⟩), .mk _ z1 z2 z3 z7 fd fa fk⟩
end Go.Proofs.YtdggfnpioljcbaaGreatDoor
