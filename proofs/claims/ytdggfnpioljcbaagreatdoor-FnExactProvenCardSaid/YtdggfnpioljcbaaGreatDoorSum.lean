/- l23Sums, SumOf, of both. -/
import Derived.Test.YtdggfnpioljcbaaGreatDoorAlone
import Derived.Test.YtdggfnpioljcbaaGreatDoorHash2
namespace Go.Proofs.YtdggfnpioljcbaaGreatDoor
open Go.RowKit Go.Lib
set_option linter.unusedVariables false
set_option linter.unusedSimpArgs false
set_option maxHeartbeats 8000000
set_option maxRecDepth 100000
mutual
def sumN : Nd → Nat
  | ⟨kind, pre, loc, uri, decls, attrs, kids, text⟩ => foldH (hashB (wNode ⟨kind, pre, loc, uri, decls, attrs, [], text⟩)) (sumsN kids)
def sumsN : List Nd → List Nat
  | [] => []
  | n :: r => sumN n :: sumsN r
end
theorem sumN_eq (n : Nd) : sumN n = foldH (hashB (wNode (alone n))) (sumsN n.kids) := by cases n; rw [sumN]; rfl
theorem sumsN_map (l : List Nd) : sumsN l = l.map sumN := by
  induction l with
  | nil => rfl
  | cons x l ih => rw [sumsN, ih]; rfl
theorem hashB_lt (s : ByteArray) : hashB s < 4294967296 := foldH_lt _ _ (by omega)
theorem sumN_lt (n : Nd) : sumN n < 4294967296 := by rw [sumN_eq]; exact foldH_lt _ _ (hashB_lt _)
theorem sums_take (l : List Nd) (j : Nat) (h : j < l.length) : (sumsN l).take (j + 1) = (sumsN l).take j ++ [sumN (l[j]'h)] := by
  rw [sumsN_map, List.take_succ_eq_append_getElem (by rw [List.length_map]; exact h), List.getElem_map]
theorem sums_length (l : List Nd) : (sumsN l).length = l.length := by rw [sumsN_map, List.length_map]
theorem Tryz.info_int : (Tryz.prog.info? 3).map (fun i => (i.zero, i.size, i.bytes)) = some (some (.int .i64 0), 1, 8) := by kernel_rfl
theorem nat_news (W : World) (x : Nat) (T : TypeId) : ∀ j u, ([Value.int .i64 (x : Int)])[j]? = some u → (W.alloc (.cells #[.int .i64 (x : Int)] T (0, 0))).cell? ((⟨W.heap.size, 0, none⟩ : Addr).add j) = some u := by
  intro j u hj
  have hg : (W.alloc (.cells #[.int .i64 (x : Int)] T (0, 0))).heap[W.heap.size]? = some (.cells #[.int .i64 (x : Int)] T (0, 0)) := Array.getElem?_push_size
  rw [Addr.add_lit, cell_of_row _ _ _ _ _ _ hg, Nat.zero_add, List.getElem?_toArray, hj]
theorem nat_one (x : Nat) : ∀ u ∈ [Value.int .i64 (x : Int)], u.oneCell' = true := by
  intro u hu; rw [List.mem_singleton] at hu; subst hu; rfl
/-- A row of sums. -/
theorem l23Sums_calls {ok : Nat → Prop} (A : Option Addr) (c : Nat) (xs : List Nd) (w : World) (hl : xs.length ≤ 1048576) (hr : Row Kd.node w ok A xs)
    (ih : ∀ n ∈ xs, ∀ (s : Sh) (W : World), NodeIs W ok n s → Calls Tryz.prog 15 #[.agg #[.int .i64 n.kind, .string n.pre, .string n.loc, .string n.uri, .slice s.Ad n.decls.length s.cd, .slice s.Aa n.attrs.length s.ca, .slice s.Ak n.kids.length s.ck, .string n.text]] W fun e w' => e = .returned (.int .i64 (sumN n)) ∧ Below W.heap.size W w') :
    Calls Tryz.prog 72 #[.slice A xs.length c] w (NewRow Kd.nat w (sumsN xs)) := by
  obtain ⟨i, hi, hz0, hz1, hz2⟩ := info_parts Tryz.info_int
  have hmax := hr.max
  have hsl := Aside0.mk (sums_length xs)
  have Ih := Aside0.mk ih
  clear ih
  have Hz2 := Aside0.mk hz2
  clear hz2
  go_enter Tryz.func72, Tryz.ntmps72
  go_wp2
  go_loopg [3, 4] xs.length (fun k v i wr => ∃ (j : Nat), i = .int .i64 j ∧ j + k = xs.length ∧ Aside (OwnG Kd.nat 3 wr w.heap.size v ((sumsN xs).take j)) ∧ Below w.heap.size w wr)
  case atStart => exact ⟨0, rfl, by omega, OwnG.made _ 0 _ _ _ (Nat.le_refl _), below_alloc (Below.refl _ _) _⟩
  case round =>
    obtain ⟨j, rfl, hk, ha, hb⟩ := hrel
    by_cases hlt : j < xs.length
    · obtain ⟨b, o, s', rfl, hbl, hs', d0, d1, d2, d3, d4, d5, d6, d7⟩ := node_at (hr.below hb) j hlt
      have HI := Aside0.mk (Ih.out _ (List.getElem_mem hlt) s' wr hs')
      obtain ⟨ys, hys⟩ : ∃ ys, ys = (sumsN xs).take j := ⟨_, rfl⟩
      rw [← hys] at ha
      obtain ⟨cells, hown, hsays⟩ := ha
      have hlen : ys.length ≤ 1048576 := by rw [hys, List.length_take]; omega
      have hys2 := Aside0.mk (show (sumsN xs).take (j + 1) = ys ++ [sumN (xs[j]'hlt)] by rw [sums_take _ _ hlt, hys])
      clear hys
      have hown' := Aside0.mk hown
      have hsays := Aside0.mk hsays
      have hlt3 := hown.lt
      have Hlt3 := Aside0.mk hlt3
      clear hown hlt3 hs'
      go_wp2_with fail
      refine HI.out.mono ?_
      rintro e w2 ⟨rfl, hb2⟩
      obtain ⟨x, hx⟩ : ∃ x : Nat, x = sumN (xs[j]'hlt) := ⟨_, rfl⟩
      rw [← hx] at hys2 ⊢
      clear hx
      have ho2 := Aside0.mk (own_below hown'.out hb2)
      have hbase : w.heap.size ≤ w2.heap.size := Nat.le_trans hb.size hb2.size
      go_wp2_with (at_builtin; refine wpList_append_own_at _ rfl _ _ 53 rfl w.heap.size 3 i _ 1 _ Tryz.underlying53 hi hz0 hz1 rfl rfl (by decide) _ _ _ rfl (ho2.out.alloc _) ⟨w2.heap.size, 0, none⟩ 1 1 [.int .i64 (x : Int)] rfl ?qc1 ?qc2 ?qc3 ?qc4 ?qc5 ?qc6 ?_)
      case qc1 => rfl
      case qc2 => exact nat_news w2 x _
      case qc3 => exact nat_one x
      case qc4 => unfold maxLen; omega
      case qc5 => rw [Hz2.out]; omega
      case qc6 => simp; omega
      intro v' w3 hown3 hgrow3 _ hat3
      have HN := Aside0.mk (OwnG.snoc (d := Kd.nat) (x := x) hown'.out hsays.out hb.size hb2 rfl hown3 hgrow3 hat3)
      have HB3 := below_grown (below_alloc (below_then hb hb2) _) hgrow3 (fun k hk => (Hlt3.out k hk).1)
      clear hown3 hgrow3 hat3
      go_wp2
      go_roundg (gk - 1)
      case measure => omega
      case rel => exact ⟨j + 1, by go_num, by omega, (by rw [hys2.out]; exact HN.out : OwnG Kd.nat 3 _ _ _ ((sumsN xs).take (j + 1))), HB3⟩
    · have hrow := Aside0.mk (show ∃ A c, u3 = .slice A (sumsN xs).length c ∧ (sumsN xs).length ≤ c ∧ Row Kd.nat wr (fun k => w.heap.size ≤ k) A (sumsN xs) by
        have := OwnG.row ha
        rwa [List.take_of_length_le (by rw [hsl.out]; omega)] at this)
      clear ha
      go_wp2
      go_ret
      obtain ⟨A', c', he, hc, hr'⟩ := hrow.out
      exact ⟨⟨A', c', by rw [he]; rfl, hc, hr'⟩, hb⟩
end Go.Proofs.YtdggfnpioljcbaaGreatDoor
