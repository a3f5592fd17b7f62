/- Copies: l5Copy, l5All of the spec, cloneNode, cloneNodes of the program. -/
import Derived.Test.YtpcklgkpjmmakaaGreatDoorClone
import Derived.Test.YtpcklgkpjmmakaaGreatDoorOwnG
import Derived.Test.YtpcklgkpjmmakaaGreatDoorPart
import Derived.Deep.RegionWith
import Derived.RegionTactic
namespace Go.Proofs.YtpcklgkpjmmakaaGreatDoor
open Go.RowKit Go.Lib
set_option linter.unusedVariables false
set_option linter.unusedSimpArgs false
set_option maxHeartbeats 8000000
set_option maxRecDepth 100000
theorem node_zero : (.agg #[.int .i64 0, .string ⟨#[]⟩, .string ⟨#[]⟩, .string ⟨#[]⟩, .slice none 0 0, .slice none 0 0, .slice none 0 0, .string ⟨#[]⟩] : Value).cells.size = 8 := rfl
theorem node_one (n : Nd) (s : Sh) : ∀ u ∈ n.cells s, u.oneCell' = true := by
  intro u hu
  simp only [Nd.cells, List.mem_cons, List.not_mem_nil, or_false] at hu
  rcases hu with rfl | rfl | rfl | rfl | rfl | rfl | rfl | rfl <;> rfl
theorem node_news (W : World) (n : Nd) (s : Sh) (T : TypeId) : ∀ j u, (n.cells s)[j]? = some u → (W.alloc (.cells (n.cells s).toArray T (0, 0))).cell? ((⟨W.heap.size, 0, none⟩ : Addr).add j) = some u := by
  intro j u hj
  have hg : (W.alloc (.cells (n.cells s).toArray T (0, 0))).heap[W.heap.size]? = some (.cells (n.cells s).toArray T (0, 0)) := Array.getElem?_push_size
  rw [Addr.add_lit, cell_of_row _ _ _ _ _ _ hg, Nat.zero_add, List.getElem?_toArray, hj]
theorem cloneNodes_calls {ok : Nat → Prop} (A : Option Addr) (c : Nat) (xs : List Nd) (w : World) (hl : xs.length ≤ 1048576) (hr : Row Kd.node w ok A xs)
    (ih : ∀ n ∈ xs, ∀ (s : Sh) (W : World), NodeIs W ok n s → Calls Tryz.prog 82 #[.agg #[.int .i64 n.kind, .string n.pre, .string n.loc, .string n.uri, .slice s.Ad n.decls.length s.cd, .slice s.Aa n.attrs.length s.ca, .slice s.Ak n.kids.length s.ck, .string n.text]] W (ToN n W)) :
    Calls Tryz.prog 111 #[.slice A xs.length c] w (NewRow Kd.node w xs) := by
  obtain ⟨i, hi, hz0, hz1, hz2⟩ := info_parts Tryz.info_Node
  have hnz := node_zero
  have Ih := Aside0.mk ih
  clear ih
  have Hz2 := Aside0.mk hz2
  clear hz2
  go_enter Tryz.func111, Tryz.ntmps111
  go_wp2
  go_loopg [3, 8] xs.length (fun k v i wr => ∃ (j : Nat), i = .int .i64 j ∧ j + k = xs.length ∧ Aside (OwnG Kd.node 28 wr w.heap.size v (xs.take j)) ∧ Below w.heap.size w wr)
  case atStart => exact ⟨0, rfl, by omega, OwnG.nil _ _ _ _, Below.refl _ _⟩
  case round =>
    obtain ⟨j, rfl, hk, ha, hb⟩ := hrel
    by_cases hlt : j < xs.length
    · obtain ⟨b, o, s', rfl, hbl, hs', d0, d1, d2, d3, d4, d5, d6, d7⟩ := node_at (hr.below hb) j hlt
      have HI := Aside0.mk (fun W (hW : Below wr.heap.size wr W) => Ih.out _ (List.getElem_mem hlt) s' W (hs'.below hW))
      obtain ⟨ys, hys⟩ : ∃ ys, ys = xs.take j := ⟨_, rfl⟩
      rw [← hys] at ha
      obtain ⟨cells, hown, hsays⟩ := ha
      have hlen : ys.length ≤ 1048576 := by rw [hys, List.length_take]; omega
      have hys2 := Aside0.mk (show xs.take (j + 1) = ys ++ [xs[j]'hlt] by rw [List.take_succ_eq_append_getElem hlt, hys])
      clear hys
      have hown' := Aside0.mk hown
      have hsays := Aside0.mk hsays
      have hlt3 := hown.lt
      have Hlt3 := Aside0.mk hlt3
      clear hown hlt3 hs'
      go_wp2_with fail
      refine (HI.out _ (below_alloc (Below.refl _ _) _)).mono ?_
      rintro e w2 ⟨⟨s2, rfl, hs2⟩, hb2⟩
      have hb12 := below_then (below_alloc (Below.refl wr.heap.size wr) _) hb2
      have hk2 := Aside0.mk ((hs2.bound).k)
      have ho2 := Aside0.mk (own_below hown'.out hb12)
      clear hs2
      have hbase : w.heap.size ≤ w2.heap.size := Nat.le_trans hb.size hb12.size
      go_wp2_with (at_builtin; refine wpList_append_own_at _ rfl _ _ 26 rfl w.heap.size 28 i _ 8 _ Tryz.underlying26 hi hz0 hz1 rfl hnz (by decide) _ _ _ rfl (ho2.out.alloc _) ⟨w2.heap.size, 0, none⟩ 1 1 ((xs[j]'hlt).cells s2) rfl ?qc1 ?qc2 ?qc3 ?qc4 ?qc5 ?qc6 ?_)
      case qc1 => rfl
      case qc2 => exact node_news w2 _ s2 _
      case qc3 => exact node_one _ s2
      case qc4 => unfold maxLen; omega
      case qc5 => rw [Hz2.out]; omega
      case qc6 => simp; omega
      intro v' w3 hown3 hgrow3 _ hat3
      have HN := Aside0.mk (OwnG.snoc (d := Kd.node) hown'.out hsays.out hb.size hb12 (Kd.node.mono (ok' := fun k => wr.heap.size ≤ k ∧ k < w2.heap.size) (fun k hk => ⟨Nat.le_trans (below_alloc (Below.refl _ _) _).size hk.1, hk.2⟩) hk2.out) hown3 hgrow3 hat3)
      have HB3 := below_grown (below_alloc (below_then hb hb12) _) hgrow3 (fun k hk => (Hlt3.out k hk).1)
      clear hown3 hgrow3 hat3
      go_wp2
      go_roundg (gk - 1)
      case measure => omega
      case rel => exact ⟨j + 1, by go_num, by omega, (by rw [hys2.out]; exact HN.out : OwnG Kd.node 28 _ _ _ (xs.take (j + 1))), HB3⟩
    · have hrow := Aside0.mk (show ∃ A c, u3 = .slice A xs.length c ∧ xs.length ≤ c ∧ Row Kd.node wr (fun k => w.heap.size ≤ k) A xs by
        have := OwnG.row ha
        rwa [List.take_of_length_le (by omega)] at this)
      clear ha
      go_wp2
      go_ret
      obtain ⟨A', c', he, hc, hr'⟩ := hrow.out
      exact ⟨⟨A', c', by rw [he]; rfl, hc, hr'⟩, hb⟩
/-- What a copy's end leaves. -/
theorem copy_end {w X : World} {n : Nd} {T : TypeId} {A1 A2 A3 : Option Addr} {q1 q2 q3 : Nat} {x0 x1 x2 x3 x4 x5 x6 x7 : Value} (HB : Below w.heap.size w X) (hx : X.heap[w.heap.size + 1]? = some (.cells #[x0, x1, x2, x3, x4, x5, x6, x7] T (0, 0)))
    (p1 : n.decls.length ≤ q1) (r1 : Row Kd.dcl X (fun k => w.heap.size + 2 ≤ k) A1 n.decls) (p2 : n.attrs.length ≤ q2) (r2 : Row Kd.atr X (fun k => w.heap.size + 2 ≤ k) A2 n.attrs) (p3 : n.kids.length ≤ q3) (r3 : Row Kd.node X (fun k => w.heap.size + 2 ≤ k) A3 n.kids)
    (Wf : World) (hWf : Wf = X.setCells (w.heap.size + 1) 0 (n.cells ⟨A1, q1, A2, q2, A3, q3⟩)) :
    Below w.heap.size w Wf ∧ Wf.heap[w.heap.size + 1]? = some (.cells (n.cells ⟨A1, q1, A2, q2, A3, q3⟩).toArray T (0, 0)) ∧ NodeIs Wf (fun k => w.heap.size ≤ k) n ⟨A1, q1, A2, q2, A3, q3⟩ := by
  have hs : ∀ k, w.heap.size + 2 ≤ k → k < X.heap.size → Wf.heap[k]? = X.heap[k]? := fun k hk _ => by rw [hWf, setCells_same _ _ _ _ _ (by omega)]
  refine ⟨?_, ?_, p1, (r1.agree hs).mono (fun k hk => by omega), p2, (r2.agree hs).mono (fun k hk => by omega), p3, (r3.agree hs).mono (fun k hk => by omega)⟩
  · rw [hWf]; exact setCells_below _ _ _ _ _ HB (by omega)
  · rw [hWf]; exact set8 hx _ _ _ _ _ _ _ _
theorem set3 {X : World} {g : Nat} {T : TypeId} {x0 x1 x2 x3 x4 x5 x6 x7 : Value} (h : X.heap[g]? = some (.cells #[x0, x1, x2, x3, x4, x5, x6, x7] T (0, 0))) (v4 v5 v6 : Value) : (X.setCells g 4 [v4, v5, v6]).heap[g]? = some (.cells #[x0, x1, x2, x3, v4, v5, v6, x7] T (0, 0)) := by
  have h4 : (World.setCell X ⟨g, 4, none⟩ v4).heap[g]? = some (.cells #[x0, x1, x2, x3, v4, x5, x6, x7] T (0, 0)) := heap_setCell_same _ g 4 _ _ _ h
  generalize hW4 : World.setCell X ⟨g, 4, none⟩ v4 = W4 at h4
  have h5 : (World.setCell W4 ⟨g, 5, none⟩ v5).heap[g]? = some (.cells #[x0, x1, x2, x3, v4, v5, x6, x7] T (0, 0)) := heap_setCell_same _ g 5 _ _ _ h4
  generalize hW5 : World.setCell W4 ⟨g, 5, none⟩ v5 = W5 at h5
  have h6 : (World.setCell W5 ⟨g, 6, none⟩ v6).heap[g]? = some (.cells #[x0, x1, x2, x3, v4, v5, v6, x7] T (0, 0)) := heap_setCell_same _ g 6 _ _ _ h5
  generalize hW6 : World.setCell W5 ⟨g, 6, none⟩ v6 = W6 at h6
  simp only [World.setCells, Nat.reduceAdd]
  rw [hW4, hW5, hW6]
  exact h6
end Go.Proofs.YtpcklgkpjmmakaaGreatDoor
