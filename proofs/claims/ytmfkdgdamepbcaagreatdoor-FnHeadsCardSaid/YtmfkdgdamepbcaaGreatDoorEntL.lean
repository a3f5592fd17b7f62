/- The laws' measures, copies and comparisons of Ents, Raws, marks. -/
import Derived.Test.YtmfkdgdamepbcaaGreatDoorMkB
import Derived.Test.YtmfkdgdamepbcaaGreatDoorSz
import Derived.Test.YtmfkdgdamepbcaaGreatDoorTo
import Derived.StillTailTactics
namespace Go.Proofs.YtmfkdgdamepbcaaGreatDoor
open Go.RowKit
set_option linter.unusedVariables false
set_option linter.unusedSimpArgs false
set_option maxRecDepth 20000
set_option maxHeartbeats 4000000
theorem szEnt_calls (d : Dcl) (left : Int) (w : World) (h0 : 0 ≤ left) (h1 : left ≤ 1099511627776) (hf : d.fit) :
    Calls Tryz.prog 48 #[.agg #[.string d.pre, .string d.uri], .int .i64 left] w fun e w' => e = .returned (.int .i64 (szV left d.wt)) ∧ Below w.heap.size w w' := by
  obtain ⟨hf0, hf1⟩ := hf
  have hf0 : d.pre.size ≤ 9223372036854775807 := hf0
  have hf1 : d.uri.size ≤ 9223372036854775807 := hf1
  have hw := Aside0.mk (show d.wt = d.pre.size + d.uri.size from rfl)
  obtain ⟨W, hW, HB, hsz, HG⟩ := boxed w #[.string d.pre, .string d.uri] 82
  have c0 := cell_of_row W w.heap.size 0 _ _ _ HG
  have c1 := cell_of_row W w.heap.size 1 _ _ _ HG
  simp only [List.getElem?_toArray, List.getElem?_cons_zero, List.getElem?_cons_succ] at c0 c1
  have HW := Aside0.mk hW
  clear hW HG
  go_enter Tryz.func48, Tryz.ntmps48
  go_upto_region 1 with fail
  rw [← HW.out]
  go_wp2
  all_goals (go_ret; exact ⟨congrArg (fun r => Ending.returned (Value.int .i64 r)) (szV_of (by have := hw.out; omega)), HB⟩)
theorem szEntS_calls {ok : Nat → Prop} (A : Option Addr) (c : Nat) (xs : List Dcl) (left : Int) (w : World) (h0 : 0 ≤ left) (h1 : left ≤ 1099511627776) (hf : ∀ d ∈ xs, d.fit) (hr : Row Kd.dcl w ok A xs) :
    Calls Tryz.prog 15 #[.slice A xs.length c, .int .i64 left] w fun e w' => e = .returned (.int .i64 (szV left (xs.length + sumOf Dcl.wt xs))) ∧ Below w.heap.size w w' := by
  have hmax := hr.max
  have hf := Aside0.mk hf
  go_enter Tryz.func15, Tryz.ntmps15
  by_cases hlen : (xs.length : Int) ≤ left
  · go_wp2
    go_loopg [1, 5] xs.length (fun k s t wr => ∃ (l : Int) (j : Nat), s = .int .i64 l ∧ t = .int .i64 j ∧ j + k = xs.length ∧ 0 ≤ l ∧ l ≤ left ∧ Aside (l = left - xs.length - (sumOf Dcl.wt (xs.take j) : Nat)) ∧ Below w.heap.size w wr)
    case atStart => exact ⟨left - xs.length, 0, rfl, rfl, by omega, by omega, by omega, (by simp [sumOf] : _ = _), Below.refl _ _⟩
    case round =>
      obtain ⟨l, j, rfl, rfl, hk, hl0, hl1, ha, hb⟩ := hrel
      by_cases hj : j < xs.length
      · obtain ⟨b, o, rfl, hbl, d0, d1⟩ := dcl_at (hr.below hb) j hj
        have hstep := Aside0.mk (sumOf_take Dcl.wt xs j hj)
        have hle := Aside0.mk (sumOf_le Dcl.wt xs (j + 1))
        clear hr
        go_wp2_with fail
        refine (szEnt_calls (xs[j]'hj) l wr hl0 (by omega) (hf.out _ (List.getElem_mem hj))).mono ?_
        rintro e w1 ⟨rfl, hb1⟩
        rcases szV_cases l (xs[j]'hj).wt with ⟨e1, e2⟩ | ⟨e1, e2⟩
        · rw [e1]
          have hnx := Aside0.mk (show l - (xs[j]'hj).wt = left - xs.length - (sumOf Dcl.wt (xs.take (j + 1)) : Nat) by rw [hstep.out, ha.out]; omega)
          clear e1
          go_wp2
          go_roundg (gk - 1)
          case measure => omega
          case rel => exact ⟨_, j + 1, rfl, by go_num, by omega, by omega, by omega, hnx.out, below_then hb hb1⟩
        · rw [e1]
          have hnx := Aside0.mk (show left < (xs.length + sumOf Dcl.wt xs : Nat) by have := hle.out; rw [hstep.out] at this; have := ha.out; omega)
          clear e1 e2
          go_wp2
          go_ret
          exact ⟨congrArg (fun r => Ending.returned (Value.int .i64 r)) (szV_of (by have := hnx.out; omega)), below_then hb hb1⟩
      · have hnx := Aside0.mk (show l = left - xs.length - (sumOf Dcl.wt xs : Nat) by rw [ha.out, List.take_of_length_le (by omega)])
        clear ha hr
        go_wp2
        go_ret
        exact ⟨congrArg (fun r => Ending.returned (Value.int .i64 r)) (szV_of (by have := hnx.out; omega)), hb⟩
  · go_wp2
    go_ret
    exact ⟨congrArg (fun r => Ending.returned (Value.int .i64 r)) (szV_of (by omega)), Below.refl _ _⟩
theorem toEnt_calls (d : Dcl) (w : World) :
    Calls Tryz.prog 49 #[.agg #[.string d.pre, .string d.uri]] w fun e w' => e = .returned (.agg #[.string d.pre, .string d.uri]) ∧ Below w.heap.size w w' := by
  go_enter Tryz.func49, Tryz.ntmps49
  go_wp2
  refine bodyPost_ret (v := .agg #[.string d.pre, .string d.uri]) ?hres rfl ⟨rfl, ?hb⟩
  case hres => simp [results, Tryz.results49, go_sem]
  case hb => repeat (first | exact Below.refl _ _ | apply below_alloc | apply below_drew | (refine below_setNew ?_ (by omega)))
theorem Tryz.info_Ent : (Tryz.prog.info? 57).map (fun i => (i.zero, i.size, i.bytes)) = some (some (.agg #[.string ⟨#[]⟩, .string ⟨#[]⟩]), 2, 32) := by kernel_rfl
theorem toEntS_calls {ok : Nat → Prop} (A : Option Addr) (xs : List Dcl) (c : Nat) (w : World) (hr : Row Kd.dcl w ok A xs) (hn : xs.length ≤ 1048576) :
    Calls Tryz.prog 16 #[.slice A xs.length c] w fun e w' => (∃ A' c', e = .returned (.slice A' xs.length c') ∧ Own Kd.dcl 57 w' w.heap.size (fun k => w.heap.size ≤ k) (.slice A' xs.length c') xs) ∧ Below w.heap.size w w' := by
  obtain ⟨i, hi, hz0, hz1, hz2⟩ := info_parts Tryz.info_Ent
  go_enter Tryz.func16, Tryz.ntmps16
  go_wp2_with (at_make; refine wpList_make_full _ rfl _ _ 24 rfl w.heap.size 57 i (.agg #[.string ⟨#[]⟩, .string ⟨#[]⟩]) 2 Tryz.underlying24 hi hz0 hz1 _ _ _ _ xs.length rfl rfl rfl rfl (by rw [hz2]; omega) (by unfold maxLen; omega) (Nat.le_refl _) ?_; intro w1 hown hgrow)
  go_loopg [4] xs.length (fun k i wr => ∃ (j : Nat) (cells : List Value), i = .int .i64 j ∧ j + k = xs.length ∧ wr.ownsRow w.heap.size 57 2 (.slice (some ⟨w.heap.size, 0, none⟩) xs.length xs.length) xs.length cells ∧ Aside (FillN Kd.dcl wr (fun k => w.heap.size < k) xs j cells) ∧ Below w.heap.size w wr)
  case atStart => exact ⟨0, _, rfl, by omega, hown, FillN.start _ _ _ hown.1, (Below.refl _ _).grown hgrow (Nat.le_refl _) (by simp)⟩
  case round =>
    obtain ⟨j, cells, rfl, hk, hown1, hf, hb⟩ := hrel
    clear hown hgrow
    by_cases hlt : j < xs.length
    · obtain ⟨b, o, rfl, hbl, d0, d1⟩ := dcl_at (hr.below hb) j hlt
      clear hr
      go_wp2_with fail
      refine (toEnt_calls (xs[j]'hlt) wr).mono ?_
      rintro e w2 ⟨rfl, hb2⟩
      have hown2 := own_below hown1 hb2
      have hst := own_stored [.string (xs[j]'hlt).pre, .string (xs[j]'hlt).uri] (j * 2) _ _ hown2
      have hf2 := ((hf.out.agree (w1 := w2) (fun k _ hlt => hb2.block k hlt)).agree (w1 := w2.setCells w.heap.size (j * 2) [.string (xs[j]'hlt).pre, .string (xs[j]'hlt).uri]) (fun k hk _ => setCells_same _ _ _ _ _ (by omega))).step hlt (vs := [.string (xs[j]'hlt).pre, .string (xs[j]'hlt).uri]) rfl
      have hb3 := setCells_below w.heap.size [.string (xs[j]'hlt).pre, .string (xs[j]'hlt).uri] (j * 2) w w2 (below_then hb hb2) (Nat.le_refl _)
      have hown1 := hown2
      have q0 := fill_cellN hown1 (i := j * 2) (by omega)
      obtain ⟨⟨u0, hu0⟩, hfz0⟩ := q0
      have q1 := fill_cellN hown1 (i := j * 2 + 1) (by omega)
      obtain ⟨⟨u1, hu1⟩, hfz1⟩ := q1
      have HS := Aside0.mk (And.intro hst (And.intro hf2 hb3))
      clear hst hf2 hb3 hown1 hown2 hf
      go_wp2
      go_roundg (gk - 1)
      case measure => omega
      case rel => exact ⟨j + 1, _, by go_num, by omega, HS.out.1, HS.out.2.1, HS.out.2.2⟩
    · have hf2 := hf.out.done (by omega)
      have HO := Aside0.mk (show Own Kd.dcl 57 wr w.heap.size (fun k => w.heap.size ≤ k) (.slice (some ⟨w.heap.size, 0, none⟩) xs.length xs.length) xs from ⟨cells, hown1, hf2.mono (fun _ h => Nat.le_of_lt h)⟩)
      clear hf hf2 hown1
      go_wp2
      go_ret
      exact ⟨⟨_, _, rfl, HO.out⟩, hb⟩
theorem eqEnt_same (d : Dcl) (w : World) :
    Calls Tryz.prog 51 #[.agg #[.string d.pre, .string d.uri], .agg #[.string d.pre, .string d.uri]] w fun e w' => e = .returned (.bool true) ∧ Below w.heap.size w w' := by
  go_enter Tryz.func51, Tryz.ntmps51
  go_wp2
  go_ret
  exact ⟨rfl, below_alloc (below_alloc (Below.refl _ _) _) _⟩
theorem eqEntS_same {ok ok2 : Nat → Prop} (A B : Option Addr) (xs : List Dcl) (c c' : Nat) (w : World) (h1 : Row Kd.dcl w ok A xs) (h2 : Row Kd.dcl w ok2 B xs) :
    Calls Tryz.prog 18 #[.slice A xs.length c, .slice B xs.length c'] w fun e w' => e = .returned (.bool true) ∧ Below w.heap.size w w' := by
  have hm := h1.max
  go_enter Tryz.func18, Tryz.ntmps18
  go_wp2
  go_loopg [5] xs.length (fun k i wr => ∃ (j : Nat), i = .int .i64 j ∧ j + k = xs.length ∧ Below w.heap.size w wr)
  case atStart => exact ⟨0, rfl, by omega, Below.refl _ _⟩
  case round =>
    obtain ⟨j, rfl, hk, hb⟩ := hrel
    by_cases hlt : j < xs.length
    · obtain ⟨b, o, rfl, hbl, d0, d1⟩ := dcl_at (h1.below hb) j hlt
      obtain ⟨b2, o2, rfl, hbl2, e0, e1⟩ := dcl_at (h2.below hb) j hlt
      clear h1 h2
      go_wp2_with fail
      go_still_tail 8, (by kernel_rfl)
      change wpList _ _ _ _ _ wr.drew
      have hbd : Below wr.heap.size wr wr.drew := below_drew (Below.refl _ _)
      generalize wr.drew = w2 at hbd ⊢
      go_wp2_with fail
      refine (eqEnt_same (xs[j]'hlt) w2).mono ?_
      rintro e w3 ⟨rfl, hb3⟩
      go_wp2
      go_roundg (gk - 1)
      case measure => omega
      case rel => exact ⟨j + 1, by go_num, by omega, below_then hb (below_then hbd hb3)⟩
    · go_wp2
      go_ret
      exact ⟨rfl, hb⟩
theorem eqRaw_same (d : Dcl) (w : World) :
    Calls Tryz.prog 97 #[.agg #[.string d.pre, .string d.uri], .agg #[.string d.pre, .string d.uri]] w fun e w' => e = .returned (.bool true) ∧ Below w.heap.size w w' := by
  go_enter Tryz.func97, Tryz.ntmps97
  go_wp2
  go_ret
  exact ⟨rfl, below_alloc (below_alloc (Below.refl _ _) _) _⟩
theorem eqRawS_same {ok ok2 : Nat → Prop} (A B : Option Addr) (xs : List Dcl) (c c' : Nat) (w : World) (h1 : Row Kd.dcl w ok A xs) (h2 : Row Kd.dcl w ok2 B xs) :
    Calls Tryz.prog 50 #[.slice A xs.length c, .slice B xs.length c'] w fun e w' => e = .returned (.bool true) ∧ Below w.heap.size w w' := by
  have hm := h1.max
  go_enter Tryz.func50, Tryz.ntmps50
  go_wp2
  go_loopg [5] xs.length (fun k i wr => ∃ (j : Nat), i = .int .i64 j ∧ j + k = xs.length ∧ Below w.heap.size w wr)
  case atStart => exact ⟨0, rfl, by omega, Below.refl _ _⟩
  case round =>
    obtain ⟨j, rfl, hk, hb⟩ := hrel
    by_cases hlt : j < xs.length
    · obtain ⟨b, o, rfl, hbl, d0, d1⟩ := dcl_at (h1.below hb) j hlt
      obtain ⟨b2, o2, rfl, hbl2, e0, e1⟩ := dcl_at (h2.below hb) j hlt
      clear h1 h2
      go_wp2_with fail
      go_still_tail 8, (by kernel_rfl)
      change wpList _ _ _ _ _ wr.drew
      have hbd : Below wr.heap.size wr wr.drew := below_drew (Below.refl _ _)
      generalize wr.drew = w2 at hbd ⊢
      go_wp2_with fail
      refine (eqRaw_same (xs[j]'hlt) w2).mono ?_
      rintro e w3 ⟨rfl, hb3⟩
      go_wp2
      go_roundg (gk - 1)
      case measure => omega
      case rel => exact ⟨j + 1, by go_num, by omega, below_then hb (below_then hbd hb3)⟩
    · go_wp2
      go_ret
      exact ⟨rfl, hb⟩
theorem eqMark_same {ok ok2 : Nat → Prop} (m : Mk) (A B : Option Addr) (c c' : Nat) (w : World) (h1 : Row Kd.dcl w ok A m.raws) (h2 : Row Kd.dcl w ok2 B m.raws) :
    Calls Tryz.prog 17 #[mkV m (.slice A m.raws.length c), mkV m (.slice B m.raws.length c')] w fun e w' => e = .returned (.bool true) ∧ Below w.heap.size w w' := by
  obtain ⟨W, hW, HB0, hsz, HG⟩ := boxed w #[.int .i64 m.kind, .string m.name, .slice A m.raws.length c, .bool m.empty, .string m.text] 29
  obtain ⟨W2, hW2, HB2, hsz2, HG2⟩ := boxed W #[.int .i64 m.kind, .string m.name, .slice B m.raws.length c', .bool m.empty, .string m.text] 29
  have hbW := below_then HB0 HB2
  have HG0 := (HB2.block _ hsz).trans HG
  have HW2 := Aside0.mk (show W2 = (w.alloc (.cells #[.int .i64 m.kind, .string m.name, .slice A m.raws.length c, .bool m.empty, .string m.text] 29)).alloc (.cells #[.int .i64 m.kind, .string m.name, .slice B m.raws.length c', .bool m.empty, .string m.text] 29) by rw [hW2, hW])
  have e0 : W.heap.size = w.heap.size + 1 := by rw [hW]; exact Array.size_push _
  have h1 := h1.below hbW
  have h2 := h2.below hbW
  have hsz' : w.heap.size < W2.heap.size := Nat.lt_of_lt_of_le hsz HB2.size
  have G0 := Aside0.mk (fun W1 (hb : Below W2.heap.size W2 W1) => (hb.block _ hsz').trans HG0)
  have G2 := Aside0.mk (fun W1 (hb : Below W2.heap.size W2 W1) => (hb.block _ hsz2).trans HG2)
  have HS := Aside0.mk (eqRawS_same A B m.raws c c' W2 h1 h2)
  rw [e0] at G2
  clear hW hW2 HB0 HB2 HG HG2 HG0 h1 h2 hsz hsz2 hsz' e0
  simp only [mkV]
  go_enter Tryz.func17, Tryz.ntmps17
  go_upto_region 1 with fail
  rw [← HW2.out]
  obtain ⟨a0, a1, a2, a3, a4, _⟩ := cells5 (G0.out W2 (Below.refl _ _))
  obtain ⟨b0, b1, b2, b3, b4, _⟩ := cells5 (G2.out W2 (Below.refl _ _))
  go_wp2_with fail
  refine (HS.out).mono ?_
  rintro e w1 ⟨rfl, hb1⟩
  clear a0 a1 a2 a3 a4 b0 b1 b2 b3 b4
  obtain ⟨a0, a1, a2, a3, a4, _⟩ := cells5 (G0.out w1 hb1)
  obtain ⟨b0, b1, b2, b3, b4, _⟩ := cells5 (G2.out w1 hb1)
  go_wp2
  go_ret
  exact ⟨rfl, below_then hbW hb1⟩
end Go.Proofs.YtmfkdgdamepbcaaGreatDoor
