/- Joined: DrawMk, DrawMa, DrawHd, DrawDf. -/
import Derived.Test.YtmfkdgdamepbcaaGreatDoorDrB
import Derived.Test.YtmfkdgdamepbcaaGreatDoorEnts
import Derived.Test.YtmfkdgdamepbcaaGreatDoorOwnG
import Derived.Test.YtmfkdgdamepbcaaGreatDoorBase
import Derived.Test.YtmfkdgdamepbcaaGreatDoorEntL
import Derived.Test.YtmfkdgdamepbcaaGreatDoorClone
import Derived.Laws.AppendOwn
import Derived.Test.YtmfkdgdamepbcaaGreatDoorHdA
section
/- What FnMarks draws. -/
namespace Go.Proofs.YtmfkdgdamepbcaaGreatDoor
open Go.RowKit Go.Lib
set_option linter.unusedVariables false
set_option linter.unusedSimpArgs false
set_option maxHeartbeats 0
set_option maxRecDepth 100000
/-- One of some texts, at most n bytes long. -/
theorem pick_calls (n : Nat) (xs : List ByteArray) (hn : ∀ x ∈ xs, (x : ByteArray).size ≤ n) (h0 : 0 < xs.length) (hm : xs.length ≤ 1000) (g : Nat) (w : World) (hc : Cur w g) :
    Calls Tryz.prog 33 #[.pointer (some ⟨g, 0, none⟩), .slice (some ⟨w.heap.size, 0, none⟩) xs.length xs.length] (w.alloc (.cells (xs.map Value.string).toArray 9 (0, 0))) fun e w' => ∃ z, e = .returned (.string z) ∧ z.size ≤ n ∧ Moved g w w' ∧ Cur w' g := by
  have hlt := hc.lt
  refine (l1Str_calls g _ _ xs _ (hc.alloc _) h0 (Nat.le_refl _) (row_lit xs (by omega) (Nat.le_trans hm (by decide)))).mono ?_
  rintro e w1 ⟨z, rfl, hz, hm1, hc1⟩
  exact ⟨z, rfl, hn z hz, ((Moved.refl g w).alloc _).trans hm1, hc1⟩
def texts6 : List ByteArray := [⟨#[60, 97, 62]⟩, ⟨#[60, 97, 47, 62]⟩, ⟨#[60, 47, 97, 62]⟩, ⟨#[60, 47, 97, 32, 62]⟩, ⟨#[60, 32, 97, 62]⟩, ⟨#[60, 97, 32, 98, 61, 39, 49, 39, 62]⟩, ⟨#[60, 97, 32, 98, 61, 34, 49, 34, 32, 99, 32, 61, 32, 39, 50, 39, 32, 47, 62]⟩, ⟨#[60, 97, 32, 98, 61, 39, 49, 39, 99, 61, 39, 50, 39, 62]⟩, ⟨#[60, 97, 32, 98, 62]⟩, ⟨#[60, 97, 32, 98, 61, 39, 60, 39, 62]⟩, ⟨#[60, 97, 32, 98, 61, 39, 38, 108, 116, 59, 10, 38, 35, 49, 48, 59, 39, 62]⟩, ⟨#[60, 33, 45, 45, 110, 45, 45, 62]⟩, ⟨#[60, 33, 45, 45, 62]⟩, ⟨#[60, 33, 45, 45, 45, 62]⟩, ⟨#[60, 33, 45, 45, 32, 45, 45, 32, 45, 45, 62]⟩, ⟨#[60, 63, 116, 63, 62]⟩, ⟨#[60, 63, 116, 32, 103, 111, 63, 62]⟩, ⟨#[60, 63, 116, 32, 32, 103, 111, 32, 63, 62]⟩, ⟨#[60, 63, 116, 103, 111]⟩, ⟨#[60, 63, 32, 116, 63, 62]⟩, ⟨#[60, 33, 91, 67, 68, 65, 84, 65, 91, 60, 38, 93, 93, 62]⟩, ⟨#[60, 33, 91, 67, 68, 65, 84, 65, 91, 93, 93, 62]⟩, ⟨#[60, 33, 91, 67, 68, 65, 84, 65, 91, 93, 93]⟩, ⟨#[116, 101, 120, 116]⟩, ⟨#[97, 38, 97, 109, 112, 59, 98]⟩, ⟨#[97, 93, 93, 62, 98]⟩, ⟨#[38, 101, 59]⟩, ⟨#[38, 110, 111, 112, 101, 59]⟩, ⟨#[60, 112, 58, 97, 32, 120, 109, 108, 110, 115, 58, 112, 61, 39, 117, 39, 62]⟩, ⟨#[60, 97, 58, 98, 58, 99, 47, 62]⟩, ⟨#[60, 97]⟩, ⟨#[60]⟩, ⟨#[60, 97, 32, 98, 61, 39, 38, 101, 59, 39, 47, 62]⟩, ⟨#[60, 33, 68, 79, 67, 84, 89, 80, 69, 32, 97, 62]⟩, ⟨#[60, 47, 97]⟩, ⟨#[60, 97, 32, 98, 61, 39, 49, 34, 62]⟩]
theorem texts6_le : ∀ x ∈ texts6, (x : ByteArray).size ≤ 50 := by decide
theorem l6Text_calls (g : Nat) (w : World) (hc : Cur w g) :
    Calls Tryz.prog 34 #[.pointer (some ⟨g, 0, none⟩)] w fun e w' => ∃ r, e = .returned (.string r) ∧ r.size ≤ 50 ∧ Moved g w w' ∧ Cur w' g := by
  go_enter Tryz.func34, Tryz.ntmps34
  go_wp2_with fail
  refine (pick_calls 50 texts6 texts6_le (by decide) (by decide) g w hc).mono ?_
  rintro e w1 ⟨z, rfl, hz, hm1, hc1⟩
  go_wp2
  go_ret
  exact ⟨_, rfl, hz, hm1, hc1⟩
def texts1 : List ByteArray := [⟨#[97]⟩, ⟨#[98, 32, 99]⟩, ⟨#[32]⟩, ⟨#[10]⟩, ⟨#[195, 169]⟩, ⟨#[226, 130, 172]⟩, ⟨#[240, 159, 152, 128]⟩, ⟨#[60]⟩, ⟨#[38]⟩, ⟨#[62]⟩, ⟨#[34]⟩, ⟨#[39]⟩, ⟨#[93, 93, 62]⟩, ⟨#[45, 45]⟩, ⟨#[9]⟩, ⟨#[13]⟩, ⟨#[0]⟩, ⟨#[255]⟩, ⟨#[192, 128]⟩, ⟨#[239, 191, 190]⟩]
theorem texts1_le : ∀ x ∈ texts1, (x : ByteArray).size ≤ 4 := by decide
theorem l1Text_calls (g : Nat) (w : World) (hc : Cur w g) :
    Calls Tryz.prog 79 #[.pointer (some ⟨g, 0, none⟩)] w fun e w' => ∃ r, e = .returned (.string r) ∧ r.size ≤ 700 ∧ Moved g w w' ∧ Cur w' g := by
  go_enter Tryz.func79, Tryz.ntmps79
  go_wp2_with fail
  refine (l1Below_calls g 4 w (by decide) (by decide) hc).mono ?_
  rintro e w1 ⟨x, rfl, hx0, hx1, hm1, hc1⟩
  have hx3 : x ≤ 3 := by omega
  clear hx1 hc
  go_wp2_with fail
  go_loopg [3, 4] x.toNat (fun k s i wr => ∃ z : ByteArray, s = .string z ∧ i = .int .i64 (k : Int) ∧ z.size + 4 * k ≤ 12 ∧ k ≤ 3 ∧ Moved g w wr ∧ Cur wr g)
  case atStart => exact ⟨_, rfl, by rw [show ((x.toNat : Nat) : Int) = x by omega], by show 0 + 4 * x.toNat ≤ 12; omega, by omega, hm1, hc1⟩
  case round =>
    obtain ⟨z, rfl, rfl, hz, hk, hmr, hcr⟩ := hrel
    clear hm1 hc1
    by_cases h0 : 0 < gk
    · have h1 : (0 : Int) < (gk : Int) := by omega
      go_wp2_with fail
      refine (pick_calls 4 texts1 texts1_le (by decide) (by decide) g _ hcr).mono ?_
      rintro e w2 ⟨y, rfl, hy, hm2, hc2⟩
      have hm3 := hmr.trans hm2
      clear hm2 hmr hcr
      go_wp2
      go_roundg (gk - 1)
      case measure => omega
      case rel => exact ⟨_, rfl, by rw [show ((gk - 1 : Nat) : Int) = (gk : Int) - 1 by omega], by rw [ByteArray.size_append]; omega, by omega, hm3, hc2⟩
    · have h1 : gk = 0 := by omega
      subst h1
      go_wp2_with fail
      refine (l1Once_calls g 40 _ (by decide) (by decide) hcr).mono ?_
      rintro e w2 ⟨b, rfl, hm2, hc2⟩
      have hm3 := hmr.trans hm2
      have hz9 : z.size ≤ 601 := by omega
      clear hm2 hmr hcr hz h0 hk
      cases b
      · go_wp2
        go_ret
        exact ⟨_, rfl, by omega, hm3, hc2⟩
      · go_wp2_with fail
        go_loopg [3] (602 - z.size) (fun k s wr => ∃ y : ByteArray, s = .string y ∧ y.size ≤ 601 ∧ y.size + k = 602 ∧ Moved g w wr ∧ Cur wr g)
        case atStart => exact ⟨_, rfl, hz9, by omega, hm3, hc2⟩
        case round =>
          obtain ⟨y, rfl, hy, hyk, hmr, hcr⟩ := hrel
          clear hm3 hc2
          have hlt := hcr.lt
          go_wp2_with fail
          refine (l1Int_calls g _ _ [600, 601] _ (hcr.alloc _) (by decide) (Nat.le_refl _) (row_lit _ (by omega) (by decide))).mono ?_
          rintro e w4 ⟨v, rfl, hv, hm4, hc4⟩
          have hm5 := (hmr.alloc _).trans hm4
          have hv1 : v ≤ 601 := by simp only [List.mem_cons, List.mem_nil_iff, or_false] at hv; omega
          clear hv hm4 hmr hcr
          by_cases hlt2 : (y.size : Int) < v
          · go_wp2
            go_roundg (gk - 1)
            case measure => omega
            case rel => exact ⟨_, rfl, by rw [ByteArray.size_append, show (ByteArray.mk #[120]).size = 1 from rfl]; omega, by rw [ByteArray.size_append, show (ByteArray.mk #[120]).size = 1 from rfl]; omega, hm5, hc4⟩
          · go_wp2
            go_ret
            exact ⟨_, rfl, by omega, hm5, hc4⟩
theorem own_moved {size n base g : Nat} {e : TypeId} {v : Value} {cells : List Value} {w w1 : World} (h : w.ownsRow base e size v n cells) (hm : Moved g w w1) (hg : g < base) : w1.ownsRow base e size v n cells := by
  obtain ⟨hcl, hh⟩ := h
  refine ⟨hcl, ?_⟩
  rcases hh with hh | ⟨b, cap, cur, rfl, hb, hh, hl⟩
  · exact .inl hh
  · exact .inr ⟨b, cap, cur, rfl, hb, (hm.block b (Array.getElem?_eq_some_iff.1 hh).1 (by omega)).trans hh, hl⟩
theorem dm_ge {w : World} {base : Nat} {e : TypeId} {sz : Nat} {v : Value} {n : Nat} {cells : List Value} (h : w.ownsRow base e sz v n cells) : ∀ k, v.ownBlock = some k → base ≤ k := fun k hk => (h.lt k hk).1
theorem dm_row {w : World} {base : Nat} {e : TypeId} {v : Value} {xs : List Dcl} (h : w.ownsRow base e 2 v xs.length (xs.flatMap Dcl.cells)) : ∃ A c, v = .slice A xs.length c ∧ xs.length ≤ c ∧ Row Kd.dcl w (fun k => base ≤ k) A xs := by
  have h' := flat_own (enc := Dcl.cells) (n := 2) (hn := fun _ => rfl) (ok := fun k => base ≤ k) h
  exact h'.row (ok' := fun k => base ≤ k) (fun _ h => h) (fun k hk => (h'.base_le k hk).1)
/-- The Ents that are drawn so far. -/
structure EA (W : World) (g : Nat) (v : Value) (xs : List Dcl) (w : World) : Prop where
  own : w.ownsRow W.heap.size 57 2 v xs.length (xs.flatMap Dcl.cells)
  mv : Moved g W w
  cur : Cur w g
  hg : g < W.heap.size
  small : ∀ d ∈ xs, d.pre.size ≤ 1048576 ∧ d.uri.size ≤ 1048576
theorem EA.next {W w w1 : World} {g : Nat} {v : Value} {xs : List Dcl} (h : EA W g v xs w) (hm : Moved g w w1) (hc : Cur w1 g) : EA W g v xs w1 := ⟨own_moved h.own hm h.hg, h.mv.trans hm, hc, h.hg, h.small⟩
theorem app_ents {W w : World} {g : Nat} {v : Value} {ys : List Dcl} {ops : Array Oper} {rest : List Oper} {o : Oper} {a : Act} {Q : Exit → Act → World → Prop} (h : EA W g v ys w) (hgd : o.guard = none) (s x : Operand)
    (ho : o.op = .call { callee := .builtin .append, args := #[s, x], argTypes := #[24, 24] }) (hs : a.eval s = v) (xs : List Dcl) (n : Nat) (T : TypeId) (cs : Array Value) (hn : xs.length = n) (hcs : cs = (xs.flatMap Dcl.cells).toArray)
    (hx : a.eval x = .slice (some ⟨w.heap.size, 0, none⟩) n n) (hl : ys.length + n ≤ 1000) (hz : ∀ d ∈ xs, d.pre.size ≤ 1048576 ∧ d.uri.size ≤ 1048576)
    (hk : ∀ v' w', EA W g v' (ys ++ xs) w' → wpList Tryz.prog ops Q rest (a.put o.dst v') w') : wpList Tryz.prog ops Q (o :: rest) a (w.alloc (.cells cs T (0, 0))) := by
  subst hn
  subst hcs
  obtain ⟨i, hi, hz0, hz1, hz2⟩ := info_parts Tryz.info_Ent
  have hg : (w.alloc (.cells (xs.flatMap Dcl.cells).toArray T (0, 0))).heap[w.heap.size]? = some (.cells (xs.flatMap Dcl.cells).toArray T (0, 0)) := Array.getElem?_push_size
  refine wpList_append_own _ hgd s x 24 ho W.heap.size 57 i _ 2 32 Tryz.underlying24 hi hz0 hz1 hz2 rfl (by decide) v ys.length (ys.flatMap Dcl.cells) hs (own_below h.own (below_alloc (Below.refl _ _) _)) ⟨w.heap.size, 0, none⟩ xs.length xs.length (xs.flatMap Dcl.cells) hx (flat_length (enc := Dcl.cells) (n := 2) (fun _ => rfl) xs) ?_ ?_ (by unfold maxLen; omega) (by omega) (Nat.le_trans h.mv.size (below_alloc (Below.refl _ _) _).size) ?_
  · intro j u hj
    rw [Addr.add_lit, cell_of_row _ _ _ _ _ _ hg, Nat.zero_add, ← hj]
    simp
  · intro u hu
    obtain ⟨d, _, hd⟩ := List.mem_flatMap.1 hu
    simp only [Dcl.cells, List.mem_cons, List.not_mem_nil, or_false] at hd
    rcases hd with rfl | rfl <;> rfl
  · intro v' w' hown hgrow _
    have hv := dm_ge h.own
    refine hk v' w' ⟨by rw [List.length_append, List.flatMap_append]; exact hown, bd_grown (h.mv.alloc _) hgrow hv, (h.cur.alloc _).grown hgrow (fun k e => Nat.lt_of_lt_of_le h.hg (hv k e)), h.hg, fun d hd => (List.mem_append.1 hd).elim (h.small d) (hz d)⟩
theorem two_small {a b : ByteArray} (ha : a.size ≤ 1048576) (hb : b.size ≤ 1048576) : ∀ d ∈ ([⟨a, b⟩] : List Dcl), d.pre.size ≤ 1048576 ∧ d.uri.size ≤ 1048576 := by
  intro d hd
  simp only [List.mem_singleton] at hd
  subst hd
  exact ⟨ha, hb⟩
theorem l3Ents_calls (g : Nat) (w : World) (hc : Cur w g) :
    Calls Tryz.prog 38 #[.pointer (some ⟨g, 0, none⟩)] w fun e w' => ∃ A c, ∃ xs : List Dcl, e = .returned (.slice A xs.length c) ∧ xs.length ≤ c ∧ Row Kd.dcl w' (fun k => w.heap.size ≤ k) A xs ∧ (∀ d ∈ xs, d.pre.size ≤ 1048576 ∧ d.uri.size ≤ 1048576) ∧ Moved g w w' ∧ Cur w' g := by
  have hlt := hc.lt
  have hEA := Aside0.mk (EA.mk (W := w) (g := g) (v := .slice (some ⟨w.heap.size, 0, none⟩) 0 0) (xs := []) (w := w.alloc (.cells #[] 57 (0, 0))) (World.ownsRow_made w #[] 0 (Nat.le_refl _) (Nat.zero_le _) rfl) ((Moved.refl g w).alloc _) (hc.alloc _) hlt (fun d hd => by cases hd))
  clear hlt
  go_enter Tryz.func38, Tryz.ntmps38
  go_wp2_with fail
  refine (l1Below_calls g 3 _ (by decide) (by decide) (hc.alloc _)).mono ?_
  rintro e w1 ⟨x, rfl, hx0, hx1, hm1, hc1⟩
  have hx3 : x ≤ 2 := by omega
  have hEA := Aside0.mk (hEA.out.next hm1 hc1)
  clear hx1 hc hm1 hc1
  go_wp2_with fail
  go_loopg [3, 4] x.toNat (fun k s i wr => ∃ ys : List Dcl, i = .int .i64 (k : Int) ∧ ys.length + k ≤ 2 ∧ Aside (EA w g s ys wr))
  case atStart => exact ⟨[], by rw [show ((x.toNat : Nat) : Int) = x by omega], by show 0 + x.toNat ≤ 2; omega, hEA.out⟩
  case round =>
    obtain ⟨ys, rfl, hk, hE⟩ := hrel
    have hE := Aside0.mk hE
    by_cases h0 : 0 < gk
    · have h1 : (0 : Int) < (gk : Int) := by omega
      go_wp2_with fail
      refine (pick_calls 1 [⟨#[101]⟩, ⟨#[102]⟩, ⟨#[103]⟩] (by decide) (by decide) (by decide) g _ hE.out.cur).mono ?_
      rintro e w2 ⟨y1, rfl, hy1, hm2, hc2⟩
      have hE2 := Aside0.mk (hE.out.next hm2 hc2)
      clear hm2 hc2
      go_wp2_with fail
      refine (pick_calls 1 [⟨#[]⟩, ⟨#[49]⟩] (by decide) (by decide) (by decide) g _ hE2.out.cur).mono ?_
      rintro e w3 ⟨y2, rfl, hy2, hm3, hc3⟩
      have hE3 := Aside0.mk (hE2.out.next hm3 hc3)
      clear hm3 hc3
      go_wp2_with fail
      refine (pick_calls 3 [⟨#[]⟩, ⟨#[120]⟩, ⟨#[97, 38, 98]⟩, ⟨#[60]⟩, ⟨#[195, 169, 32]⟩] (by decide) (by decide) (by decide) g _ hE3.out.cur).mono ?_
      rintro e w4 ⟨y3, rfl, hy3, hm4, hc4⟩
      have hE4 := Aside0.mk (hE3.out.next hm4 hc4)
      clear hm4 hc4
      go_wp2_with (at_builtin; refine app_ents hE4.out rfl _ _ rfl rfl [⟨y1 ++ y2, y3⟩] 1 _ _ rfl rfl rfl (by omega) (two_small (by rw [ByteArray.size_append]; omega) (by omega)) ?_)
      intro v5 w5 hE5
      have hE5 := Aside0.mk hE5
      go_wp2
      go_roundg (gk - 1)
      case measure => omega
      case rel => exact ⟨_, by rw [show ((gk - 1 : Nat) : Int) = (gk : Int) - 1 by omega], by rw [List.length_append, List.length_singleton]; omega, hE5.out⟩
    · have h1 : gk = 0 := by omega
      subst h1
      go_wp2_with fail
      refine (l1Once_calls g 10 _ (by decide) (by decide) hE.out.cur).mono ?_
      rintro e w2 ⟨b, rfl, hm2, hc2⟩
      have hE2 := Aside0.mk (hE.out.next hm2 hc2)
      clear hm2 hc2
      cases b
      · go_wp2_with fail
        refine (l1Once_calls g 20 _ (by decide) (by decide) hE2.out.cur).mono ?_
        rintro e w8 ⟨b8, rfl, hm8, hc8⟩
        have hE8 := Aside0.mk (hE2.out.next hm8 hc8)
        clear hm8 hc8
        cases b8
        · obtain ⟨A, c, hv, hle, hr⟩ := dm_row hE8.out.own
          have HF := Aside0.mk (And.intro hv (And.intro hle (And.intro hr (And.intro hE8.out.small (And.intro hE8.out.mv hE8.out.cur)))))
          clear hv hle hr
          go_wp2
          go_ret
          exact ⟨A, c, _, congrArg Ending.returned HF.out.1, HF.out.2⟩
        · go_wp2_with (at_builtin; refine app_ents hE8.out rfl _ _ rfl rfl [⟨⟨#[118]⟩, ⟨#[]⟩⟩, ⟨⟨#[119]⟩, ⟨#[]⟩⟩, ⟨⟨#[120]⟩, ⟨#[]⟩⟩, ⟨⟨#[121]⟩, ⟨#[]⟩⟩] 4 _ _ rfl rfl rfl (by omega) (by decide) ?_)
          intro v9 w9 hE9
          have hE9 := Aside0.mk hE9
          obtain ⟨A, c, hv, hle, hr⟩ := dm_row hE9.out.own
          have HF := Aside0.mk (And.intro hv (And.intro hle (And.intro hr (And.intro hE9.out.small (And.intro hE9.out.mv hE9.out.cur)))))
          clear hv hle hr
          go_wp2
          go_ret
          exact ⟨A, c, _, congrArg Ending.returned HF.out.1, HF.out.2⟩
      · go_wp2_with fail
        refine (pick_calls 3 [⟨#[108, 116]⟩, ⟨#[]⟩, ⟨#[101, 58, 102]⟩, ⟨#[111, 107]⟩] (by decide) (by decide) (by decide) g _ hE2.out.cur).mono ?_
        rintro e w3 ⟨y1, rfl, hy1, hm3, hc3⟩
        have hE3 := Aside0.mk (hE2.out.next hm3 hc3)
        clear hm3 hc3
        go_wp2_with fail
        refine (l1Text_calls g _ hE3.out.cur).mono ?_
        rintro e w4 ⟨y2, rfl, hy2, hm4, hc4⟩
        have hE4 := Aside0.mk (hE3.out.next hm4 hc4)
        clear hm4 hc4
        go_wp2_with (at_builtin; refine app_ents hE4.out rfl _ _ rfl rfl [⟨y1, y2⟩] 1 _ _ rfl rfl rfl (by omega) (two_small (by omega) (by omega)) ?_)
        intro v5 w5 hE5
        have hE5 := Aside0.mk hE5
        go_wp2_with fail
        refine (l1Once_calls g 20 _ (by decide) (by decide) hE5.out.cur).mono ?_
        rintro e w8 ⟨b8, rfl, hm8, hc8⟩
        have hE8 := Aside0.mk (hE5.out.next hm8 hc8)
        clear hm8 hc8
        cases b8
        · obtain ⟨A, c, hv, hle, hr⟩ := dm_row hE8.out.own
          have HF := Aside0.mk (And.intro hv (And.intro hle (And.intro hr (And.intro hE8.out.small (And.intro hE8.out.mv hE8.out.cur)))))
          clear hv hle hr
          go_wp2
          go_ret
          exact ⟨A, c, _, congrArg Ending.returned HF.out.1, HF.out.2⟩
        · go_wp2_with (at_builtin; refine app_ents hE8.out rfl _ _ rfl rfl [⟨⟨#[118]⟩, ⟨#[]⟩⟩, ⟨⟨#[119]⟩, ⟨#[]⟩⟩, ⟨⟨#[120]⟩, ⟨#[]⟩⟩, ⟨⟨#[121]⟩, ⟨#[]⟩⟩] 4 _ _ rfl rfl rfl (by rw [List.length_append, List.length_singleton]; omega) (by decide) ?_)
          intro v9 w9 hE9
          have hE9 := Aside0.mk hE9
          obtain ⟨A, c, hv, hle, hr⟩ := dm_row hE9.out.own
          have HF := Aside0.mk (And.intro hv (And.intro hle (And.intro hr (And.intro hE9.out.small (And.intro hE9.out.mv hE9.out.cur)))))
          clear hv hle hr
          go_wp2
          go_ret
          exact ⟨A, c, _, congrArg Ending.returned HF.out.1, HF.out.2⟩
end Go.Proofs.YtmfkdgdamepbcaaGreatDoor
end
section
/- FnMarks' draws; what is small. -/
namespace Go.Proofs.YtmfkdgdamepbcaaGreatDoor
open Go.RowKit Go.Lib
set_option linter.unusedVariables false
set_option linter.unusedSimpArgs false
set_option maxHeartbeats 0
set_option maxRecDepth 100000
theorem big_calls (A : Option Addr) (n c : Nat) (w : World) : Calls Tryz.prog 7 #[.slice A n c] w fun e w' => e = .returned (.bool (decide ((n : Int) > 1048576))) ∧ w = w' := by
  go_enter Tryz.func7, Tryz.ntmps7
  go_wp2
  go_ret
  exact ⟨rfl, rfl⟩
def blanks5 : List ByteArray := [⟨#[]⟩, ⟨#[32]⟩, ⟨#[97, 32, 10, 9, 98]⟩, ⟨#[32, 32, 32]⟩, ⟨#[13, 10, 97]⟩]
theorem blanks5_le : ∀ x ∈ blanks5, (x : ByteArray).size ≤ 5 := by decide
theorem drawBlanks_calls (A : Option Addr) (c : Nat) (xs : List Int) (w : World) (hl : xs.length ≤ c) (hr : Row (Kd.int .u8) w (fun k => k < w.heap.size) A xs) :
    Calls Tryz.prog 12 #[.slice A xs.length c] w fun e w' => ∃ (s : ByteArray) (i : Int), e = .returned (.tuple #[.string s, .int .i64 i]) ∧ s.size ≤ 5 ∧ -1 ≤ i ∧ i ≤ 5 ∧ Below w.heap.size w w' := by
  go_enter Tryz.func12, Tryz.ntmps12
  go_wp2_with fail
  refine (l1New_calls A c xs w hl hr).mono ?_
  rintro e w1 ⟨g, rfl, hg, hb, hc⟩
  go_wp2_with fail
  refine (pick_calls 5 blanks5 blanks5_le (by decide) (by decide) g _ hc).mono ?_
  rintro e w2 ⟨s, rfl, hs, hm2, hc2⟩
  go_wp2_with fail
  refine (l1Below_calls g 7 _ (by decide) (by decide) hc2).mono ?_
  rintro e w3 ⟨x, rfl, hx0, hx1, hm3, hc3⟩
  have hB := Aside0.mk (below_moved hb (hm2.trans hm3) hg)
  clear hm2 hm3 hb
  go_wp2
  go_ret2
  exact ⟨_, _, rfl, hs, by omega, by omega, hB.out⟩
theorem drawMarkAt_calls (A : Option Addr) (c : Nat) (xs : List Int) (w : World) (hl : xs.length ≤ c) (hr : Row (Kd.int .u8) w (fun k => k < w.heap.size) A xs) :
    Calls Tryz.prog 8 #[.slice A xs.length c] w fun e w' => ∃ (s : ByteArray) (i : Int) (A' : Option Addr) (c' : Nat) (l : List Dcl), e = .returned (.tuple #[.string s, .int .i64 i, .slice A' l.length c']) ∧ s.size ≤ 200 ∧ -9 ≤ i ∧ i ≤ 2 ∧ l.length ≤ c' ∧ Row Kd.dcl w' (fun k => w.heap.size ≤ k) A' l ∧ (∀ d ∈ l, d.pre.size ≤ 1048576 ∧ d.uri.size ≤ 1048576) ∧ Below w.heap.size w w' := by
  go_enter Tryz.func8, Tryz.ntmps8
  go_wp2_with fail
  refine (l1New_calls A c xs w hl hr).mono ?_
  rintro e w1 ⟨g, rfl, hg, hb, hc⟩
  go_wp2_with fail
  refine (pick_calls 1 [⟨#[]⟩, ⟨#[]⟩, ⟨#[120]⟩, ⟨#[32]⟩] (by decide) (by decide) (by decide) g _ hc).mono ?_
  rintro e w2 ⟨y1, rfl, hy1, hm2, hc2⟩
  go_wp2_with fail
  refine (l6Text_calls g _ hc2).mono ?_
  rintro e w3 ⟨y2, rfl, hy2, hm3, hc3⟩
  go_wp2_with fail
  refine (l6Text_calls g _ hc3).mono ?_
  rintro e w4 ⟨y3, rfl, hy3, hm4, hc4⟩
  go_wp2_with fail
  refine (l1Once_calls g 3 _ (by decide) (by decide) hc4).mono ?_
  rintro e w5 ⟨b, rfl, hm5, hc5⟩
  have hM := Aside0.mk (((hm2.trans hm3).trans hm4).trans hm5)
  have hB := Aside0.mk hb
  clear hm2 hm3 hm4 hm5 hc hc2 hc3 hc4 hb
  cases b
  · have hlt := hc5.lt
    go_wp2_with fail
    refine (l1Int_calls g _ _ [0, 0, 0, 0, 1, -9] _ (hc5.alloc _) (by decide) (Nat.le_refl _) (row_lit _ (by omega) (by decide))).mono ?_
    rintro e w7 ⟨v, rfl, hv, hm7, hc7⟩
    have hM7 := Aside0.mk ((hM.out.alloc _).trans hm7)
    have hv0 : -9 ≤ v ∧ v ≤ 1 := by simp only [List.mem_cons, List.mem_nil_iff, or_false] at hv; omega
    have hle7 : w.heap.size ≤ w7.heap.size := (below_moved hB.out hM7.out hg).size
    clear hm7 hv hlt hc5
    go_wp2_with fail
    refine (l3Ents_calls g _ hc7).mono ?_
    rintro e w8 ⟨A', c', l, rfl, hl', hr', hz, hm8, hc8⟩
    have hB8 := Aside0.mk (below_moved hB.out (hM7.out.trans hm8) hg)
    have hR := Aside0.mk (hr'.mono (fun k hk => Nat.le_trans hle7 hk))
    clear hm8 hr'
    go_wp2
    go_ret3
    exact ⟨_, _, A', c', l, rfl, (by rw [ByteArray.size_append, ByteArray.size_append]; omega), by omega, by omega, hl', hR.out, hz, hB8.out⟩
  · go_wp2_with fail
    refine (l1Bend_calls g _ _ (by rw [ByteArray.size_append, ByteArray.size_append]; omega) hc5).mono ?_
    rintro e w6 ⟨z, rfl, hz6, hm6, hc6⟩
    have hz6 : z.size ≤ 200 := by rw [ByteArray.size_append, ByteArray.size_append] at hz6; omega
    have hM := Aside0.mk (hM.out.trans hm6)
    have hc5 := hc6
    clear hm6 hc6
    have hlt := hc5.lt
    go_wp2_with fail
    refine (l1Int_calls g _ _ [0, 0, 0, 0, 1, -9] _ (hc5.alloc _) (by decide) (Nat.le_refl _) (row_lit _ (by omega) (by decide))).mono ?_
    rintro e w7 ⟨v, rfl, hv, hm7, hc7⟩
    have hM7 := Aside0.mk ((hM.out.alloc _).trans hm7)
    have hv0 : -9 ≤ v ∧ v ≤ 1 := by simp only [List.mem_cons, List.mem_nil_iff, or_false] at hv; omega
    have hle7 : w.heap.size ≤ w7.heap.size := (below_moved hB.out hM7.out hg).size
    clear hm7 hv hlt hc5
    go_wp2_with fail
    refine (l3Ents_calls g _ hc7).mono ?_
    rintro e w8 ⟨A', c', l, rfl, hl', hr', hz, hm8, hc8⟩
    have hB8 := Aside0.mk (below_moved hB.out (hM7.out.trans hm8) hg)
    have hR := Aside0.mk (hr'.mono (fun k hk => Nat.le_trans hle7 hk))
    clear hm8 hr'
    go_wp2
    go_ret3
    exact ⟨_, _, A', c', l, rfl, hz6, by omega, by omega, hl', hR.out, hz, hB8.out⟩
end Go.Proofs.YtmfkdgdamepbcaaGreatDoor
end
section
/- What FnHeads draws. -/
namespace Go.Proofs.YtmfkdgdamepbcaaGreatDoor
open Go.RowKit Go.Lib
set_option linter.unusedVariables false
set_option linter.unusedSimpArgs false
set_option maxHeartbeats 0
set_option maxRecDepth 100000
def heads18 : List ByteArray := [⟨#[60, 33, 69, 78, 84, 73, 84, 89, 32, 101, 32, 34, 120, 34, 62]⟩, ⟨#[60, 33, 69, 78, 84, 73, 84, 89, 32, 102, 49, 32, 39, 97, 38, 101, 59, 98, 39, 32, 62]⟩, ⟨#[60, 33, 69, 78, 84, 73, 84, 89, 32, 102, 32, 39, 38, 108, 116, 59, 39, 62]⟩, ⟨#[60, 33, 69, 78, 84, 73, 84, 89, 32, 101, 32, 39, 121, 39, 62]⟩, ⟨#[60, 33, 69, 78, 84, 73, 84, 89, 32, 108, 116, 32, 39, 121, 39, 62]⟩, ⟨#[60, 33, 69, 78, 84, 73, 84, 89, 32, 103, 32, 39, 60, 39, 62]⟩, ⟨#[60, 33, 69, 78, 84, 73, 84, 89, 32, 112, 58, 113, 32, 39, 120, 39, 62]⟩, ⟨#[60, 33, 65, 84, 84, 76, 73, 83, 84, 32, 97, 32, 105, 100, 32, 73, 68, 32, 35, 73, 77, 80, 76, 73, 69, 68, 62]⟩, ⟨#[60, 33, 65, 84, 84, 76, 73, 83, 84, 32, 105, 116, 101, 109, 32, 105, 100, 32, 73, 68, 32, 35, 73, 77, 80, 76, 73, 69, 68, 32, 107, 32, 67, 68, 65, 84, 65, 32, 39, 118, 32, 119, 39, 62]⟩, ⟨#[60, 33, 65, 84, 84, 76, 73, 83, 84, 32, 97, 32, 118, 32, 67, 68, 65, 84, 65, 32, 34, 38, 101, 59, 49, 34, 62]⟩, ⟨#[60, 33, 65, 84, 84, 76, 73, 83, 84, 32, 98, 62]⟩, ⟨#[60, 33, 65, 84, 84, 76, 73, 83, 84, 32, 98, 32, 105, 100, 32, 73, 68, 32, 39, 120, 39, 62]⟩, ⟨#[60, 33, 65, 84, 84, 76, 73, 83, 84, 32, 97, 32, 105, 100, 32, 67, 68, 65, 84, 65, 32, 35, 73, 77, 80, 76, 73, 69, 68, 62]⟩, ⟨#[60, 33, 45, 45, 110, 45, 45, 62]⟩, ⟨#[60, 33, 45, 45, 110, 45, 45, 45, 62]⟩, ⟨#[32]⟩, ⟨#[10]⟩, ⟨#[60, 63, 116, 63, 62]⟩]
theorem heads18_le : ∀ x ∈ heads18, (x : ByteArray).size ≤ 50 := by decide
def heads6 : List ByteArray := [⟨#[62]⟩, ⟨#[32, 62]⟩, ⟨#[91, 93, 62]⟩, ⟨#[32, 91, 32, 93, 32, 62]⟩, ⟨#[]⟩, ⟨#[93, 62]⟩]
theorem heads6_le : ∀ x ∈ heads6, (x : ByteArray).size ≤ 10 := by decide
def heads4 : List ByteArray := [⟨#[97]⟩, ⟨#[98]⟩, ⟨#[105, 116, 101, 109]⟩, ⟨#[112, 58, 97]⟩]
theorem heads4_le : ∀ x ∈ heads4, (x : ByteArray).size ≤ 4 := by decide
theorem l7Head_calls (g : Nat) (w : World) (hc : Cur w g) :
    Calls Tryz.prog 55 #[.pointer (some ⟨g, 0, none⟩)] w fun e w' => ∃ r, e = .returned (.string r) ∧ r.size ≤ 200 ∧ Moved g w w' ∧ Cur w' g := by
  go_enter Tryz.func55, Tryz.ntmps55
  go_wp2_with fail
  refine (pick_calls 4 heads4 heads4_le (by decide) (by decide) g w hc).mono ?_
  rintro e w1 ⟨z, rfl, hz, hm1, hc1⟩
  go_wp2_with fail
  refine (l1Once_calls g 4 _ (by decide) (by decide) hc1).mono ?_
  rintro e w2 ⟨b, rfl, hm2, hc2⟩
  have hm2 := hm1.trans hm2
  clear hm1 hc1 hc
  have hs10 : (⟨#[60, 33, 68, 79, 67, 84, 89, 80, 69, 32]⟩ : ByteArray).size = 10 := rfl
  obtain ⟨t, ht⟩ : ∃ t, t = (⟨#[60, 33, 68, 79, 67, 84, 89, 80, 69, 32]⟩ : ByteArray) ++ z := ⟨_, rfl⟩
  have htz : t.size ≤ 14 := by rw [ht, ByteArray.size_append]; omega
  rw [← ht]
  clear ht hz hs10
  cases b with
  | true =>
    go_wp2_with fail
    refine (pick_calls 10 heads6 heads6_le (by decide) (by decide) g _ hc2).mono ?_
    rintro e w3 ⟨y, rfl, hy, hm3, hc3⟩
    have hm3 := hm2.trans hm3
    go_wp2
    go_ret
    exact ⟨_, rfl, by rw [ByteArray.size_append]; omega, hm3, hc3⟩
  | false =>
    go_wp2_with fail
    refine (l1Below_calls g 4 _ (by decide) (by decide) hc2).mono ?_
    rintro e w3 ⟨x, rfl, hx0, hx1, hm3, hc3⟩
    have hx3 : x ≤ 3 := by omega
    have hm3 := hm2.trans hm3
    clear hx1 hc2 hm2
    have hs2 : (⟨#[32, 91]⟩ : ByteArray).size = 2 := rfl
    have hs2' : (⟨#[93, 62]⟩ : ByteArray).size = 2 := rfl
    go_wp2_with fail
    go_loopg [3, 4] x.toNat (fun k s i wr => ∃ z : ByteArray, s = .string z ∧ i = .int .i64 (k : Int) ∧ z.size + 50 * k ≤ 166 ∧ k ≤ 3 ∧ Moved g w wr ∧ Cur wr g)
    case atStart => exact ⟨_, rfl, by rw [show ((x.toNat : Nat) : Int) = x by omega], by rw [ByteArray.size_append]; omega, by omega, hm3, hc3⟩
    case round =>
      obtain ⟨z, rfl, rfl, hz, hk, hmr, hcr⟩ := hrel
      clear hm3 hc3
      by_cases h0 : 0 < gk
      · have h1 : (0 : Int) < (gk : Int) := by omega
        go_wp2_with fail
        refine (pick_calls 50 heads18 heads18_le (by decide) (by decide) g _ hcr).mono ?_
        rintro e w4 ⟨y, rfl, hy, hm4, hc4⟩
        have hm5 := hmr.trans hm4
        clear hm4 hmr hcr
        go_wp2
        go_roundg (gk - 1)
        case measure => omega
        case rel => exact ⟨_, rfl, by rw [show ((gk - 1 : Nat) : Int) = (gk : Int) - 1 by omega], by rw [ByteArray.size_append]; omega, by omega, hm5, hc4⟩
      · have h1 : gk = 0 := by omega
        subst h1
        go_wp2
        go_ret
        exact ⟨_, rfl, by rw [ByteArray.size_append]; omega, hmr, hcr⟩
theorem drawHeadAt_calls (A : Option Addr) (c : Nat) (xs : List Int) (w : World) (hl : xs.length ≤ c) (hr : Row (Kd.int .u8) w (fun k => k < w.heap.size) A xs) :
    Calls Tryz.prog 22 #[.slice A xs.length c] w fun e w' => ∃ (s : ByteArray) (i : Int), e = .returned (.tuple #[.string s, .int .i64 i]) ∧ s.size ≤ 300 ∧ -5 ≤ i ∧ i ≤ 8 ∧ Below w.heap.size w w' := by
  go_enter Tryz.func22, Tryz.ntmps22
  go_wp2_with fail
  refine (l1New_calls A c xs w hl hr).mono ?_
  rintro e w1 ⟨g, rfl, hg, hb, hc⟩
  go_wp2_with fail
  refine (pick_calls 7 [⟨#[]⟩, ⟨#[]⟩, ⟨#[32]⟩, ⟨#[60, 33, 45, 45, 45, 45, 62]⟩] (by decide) (by decide) (by decide) g _ hc).mono ?_
  rintro e w2 ⟨y1, rfl, hy1, hm2, hc2⟩
  go_wp2_with fail
  refine (l7Head_calls g _ hc2).mono ?_
  rintro e w3 ⟨y2, rfl, hy2, hm3, hc3⟩
  go_wp2_with fail
  refine (l1Once_calls g 4 _ (by decide) (by decide) hc3).mono ?_
  rintro e w4 ⟨b, rfl, hm4, hc4⟩
  have hM := Aside0.mk ((hm2.trans hm3).trans hm4)
  have hB := Aside0.mk hb
  clear hm2 hm3 hm4 hc hc2 hc3 hb
  cases b
  · go_wp2_with fail
    refine (pick_calls 4 [⟨#[]⟩, ⟨#[60, 97, 47, 62]⟩] (by decide) (by decide) (by decide) g _ hc4).mono ?_
    rintro e w6 ⟨y4, rfl, hy4, hm6, hc6⟩
    have hlt := hc6.lt
    have hM6 := Aside0.mk (hM.out.trans hm6)
    clear hm6 hc4
    go_wp2_with fail
    refine (l1Int_calls g _ _ [0, 0, 0, 0, 1, -5] _ (hc6.alloc _) (by decide) (Nat.le_refl _) (row_lit _ (by omega) (by decide))).mono ?_
    rintro e w7 ⟨v, rfl, hv, hm7, hc7⟩
    have hB7 := Aside0.mk (below_moved hB.out ((hM6.out.alloc _).trans hm7) hg)
    have hv0 : -5 ≤ v ∧ v ≤ 1 := by simp only [List.mem_cons, List.mem_nil_iff, or_false] at hv; omega
    clear hm7 hv hlt hc6 hc7
    go_wp2
    go_ret2
    exact ⟨_, _, rfl, by rw [ByteArray.size_append, ByteArray.size_append]; omega, by omega, by omega, hB7.out⟩
  · go_wp2_with fail
    refine (l1Bend_calls g _ _ (by omega) hc4).mono ?_
    rintro e w5 ⟨z, rfl, hz5, hm5, hc5⟩
    have hM := Aside0.mk (hM.out.trans hm5)
    have hc4 := hc5
    clear hm5 hc5
    go_wp2_with fail
    refine (pick_calls 4 [⟨#[]⟩, ⟨#[60, 97, 47, 62]⟩] (by decide) (by decide) (by decide) g _ hc4).mono ?_
    rintro e w6 ⟨y4, rfl, hy4, hm6, hc6⟩
    have hlt := hc6.lt
    have hM6 := Aside0.mk (hM.out.trans hm6)
    clear hm6 hc4
    go_wp2_with fail
    refine (l1Int_calls g _ _ [0, 0, 0, 0, 1, -5] _ (hc6.alloc _) (by decide) (Nat.le_refl _) (row_lit _ (by omega) (by decide))).mono ?_
    rintro e w7 ⟨v, rfl, hv, hm7, hc7⟩
    have hB7 := Aside0.mk (below_moved hB.out ((hM6.out.alloc _).trans hm7) hg)
    have hv0 : -5 ≤ v ∧ v ≤ 1 := by simp only [List.mem_cons, List.mem_nil_iff, or_false] at hv; omega
    clear hm7 hv hlt hc6 hc7
    go_wp2
    go_ret2
    exact ⟨_, _, rfl, by rw [ByteArray.size_append, ByteArray.size_append]; omega, by omega, by omega, hB7.out⟩
end Go.Proofs.YtmfkdgdamepbcaaGreatDoor
end
section
/- DrawDefOf of the reference. -/
namespace Go.Proofs.YtmfkdgdamepbcaaGreatDoor
open Go.RowKit Go.Lib
set_option linter.unusedVariables false
set_option linter.unusedSimpArgs false
set_option maxHeartbeats 0
set_option maxRecDepth 100000
/-- The Defs that are drawn so far. -/
structure DA (W : World) (g : Nat) (v : Value) (xs : List Df) (w : World) : Prop where
  own : w.ownsRow W.heap.size 54 5 v xs.length (xs.flatMap Df.cells)
  mv : Moved g W w
  cur : Cur w g
  hg : g < W.heap.size
section
variable {W w w1 : World} {g gd : Nat} {v : Value} {xs : List Df}
theorem DA.next (h : DA W g v xs w) (hm : Moved g w w1) (hc : Cur w1 g) : DA W g v xs w1 := ⟨hown_moved h.own hm h.hg, h.mv.trans hm, hc, h.hg⟩
theorem DA.new (h : DA W g v xs w) (o : Obj) : DA W g v xs (w.alloc o) := h.next ((Moved.refl g w).alloc o) (h.cur.alloc o)
theorem DA.put (h : DA W g v xs w) (hm : Moved gd w w1) (hgd : W.heap.size ≤ gd) (hv : ∀ k, v.ownBlock = some k → k < gd) : DA W g v xs w1 :=
  ⟨hown_grown h.own (hmoved_by hm) (fun k hk e => by injection e with e; have := hv k hk; omega), bd_new h.mv hm hgd, h.cur.new hm (Nat.lt_of_lt_of_le h.hg hgd), h.hg⟩
end
theorem app_def {W w : World} {g : Nat} {v : Value} {ys : List Df} {ops : Array Oper} {rest : List Oper} {o : Oper} {a : Act} {Q : Exit → Act → World → Prop} (h : DA W g v ys w) (hgd : o.guard = none) (s x : Operand)
    (ho : o.op = .call { callee := .builtin .append, args := #[s, x], argTypes := #[46, 46] }) (hs : a.eval s = v) (d : Df)
    (hx : a.eval x = .slice (some ⟨w.heap.size, 0, none⟩) 1 1) (hl : ys.length + 1 ≤ 1000)
    (hk : ∀ v' w', DA W g v' (ys ++ [d]) w' → wpList Tryz.prog ops Q rest (a.put o.dst v') w') : wpList Tryz.prog ops Q (o :: rest) a (w.alloc (.cells #[.string d.el, .string d.at_, .bool d.id, .bool d.has, .string d.val] 54 (0, 0))) := by
  obtain ⟨i, hi, hz0, hz1, hz2⟩ := info_parts Tryz.info_Def
  refine wpList_append_own _ hgd s x 46 ho W.heap.size 54 i _ 5 56 Tryz.underlying46 hi hz0 hz1 hz2 rfl (by decide) v ys.length (ys.flatMap Df.cells) hs (own_below h.own (below_alloc (Below.refl _ _) _)) ⟨w.heap.size, 0, none⟩ 1 1 d.cells hx rfl ?_ ?_ (by unfold maxLen; omega) (by omega) (by have := h.mv.size; rw [World.alloc, Array.size_push]; omega) ?_
  · exact df_news w d 54
  · exact df_one d
  · intro v' w' hown hgrow _
    have hv : ∀ k, v.ownBlock = some k → W.heap.size ≤ k := fun k hk => (h.own.lt k hk).1
    refine hk v' w' ⟨by rw [List.length_append, List.flatMap_append, List.length_singleton]; simpa using hown, bd_grown (h.mv.alloc _) hgrow hv, (h.cur.alloc _).grown hgrow (fun k e => Nat.lt_of_lt_of_le h.hg (hv k e)), h.hg⟩
theorem drawDefOf_calls (A : Option Addr) (c : Nat) (xs : List Int) (w : World) (hl : xs.length ≤ c) (hr : Row (Kd.int .u8) w (fun k => k < w.heap.size) A xs) :
    Calls Tryz.prog 25 #[.slice A xs.length c] w fun e w' => ∃ (A' : Option Addr) (c' : Nat) (l : List Df) (el n : ByteArray), e = .returned (.tuple #[.slice A' l.length c', .string el, .string n]) ∧ Row Kd.df w' (fun k => True) A' l ∧ Below w.heap.size w w' := by
  go_enter Tryz.func25, Tryz.ntmps25
  go_wp2_with fail
  refine (l1New_calls A c xs w hl hr).mono ?_
  rintro e w1 ⟨g, rfl, hg, hb, hc⟩
  have hlt := hc.lt
  have hDA := Aside0.mk (DA.mk (W := w1) (g := g) (v := .slice (some ⟨w1.heap.size, 0, none⟩) 0 0) (xs := []) (w := w1.alloc (.cells #[] 54 (0, 0))) (World.ownsRow_made w1 #[] 0 (Nat.le_refl _) (Nat.zero_le _) rfl) ((Moved.refl g w1).alloc _) (hc.alloc _) hlt)
  have hB := Aside0.mk hb
  clear hlt hb
  go_wp2_with fail
  refine (l1Below_calls g 5 _ (by decide) (by decide) (hc.alloc _)).mono ?_
  rintro e w2 ⟨x, rfl, hx0, hx1, hm2, hc2⟩
  have hx4 : x ≤ 4 := by omega
  have hDA := Aside0.mk (hDA.out.next hm2 hc2)
  clear hx1 hc hm2 hc2
  go_wp2_with fail
  go_loopg [6, 7] x.toNat (fun k s i wr => ∃ ys : List Df, i = .int .i64 (k : Int) ∧ ys.length + k ≤ 4 ∧ Aside (DA w1 g s ys wr))
  case atStart => exact ⟨[], by rw [show ((x.toNat : Nat) : Int) = x by omega], by show 0 + x.toNat ≤ 4; omega, hDA.out⟩
  case round =>
    obtain ⟨ys, rfl, hk, hE⟩ := hrel
    replace hE := Aside0.mk hE.out
    by_cases h0 : 0 < gk
    · have h1 : (0 : Int) < (gk : Int) := by omega
      go_wp2_with fail
      refine (pick_calls 4 [⟨#[97]⟩, ⟨#[105, 116, 101, 109]⟩, ⟨#[98]⟩] (by decide) (by decide) (by decide) g _ hE.out.cur).mono ?_
      rintro e w3 ⟨y1, rfl, hy1, hm3, hc3⟩
      replace hE := Aside0.mk (hE.out.next hm3 hc3)
      clear hm3 hc3
      go_wp2_with fail
      refine (pick_calls 2 [⟨#[105, 100]⟩, ⟨#[107]⟩, ⟨#[118]⟩] (by decide) (by decide) (by decide) g _ hE.out.cur).mono ?_
      rintro e w4 ⟨y2, rfl, hy2, hm4, hc4⟩
      replace hE := Aside0.mk (hE.out.next hm4 hc4)
      clear hm4 hc4
      go_wp2_with fail
      refine (l1Once_calls g 3 _ (by decide) (by decide) hE.out.cur).mono ?_
      rintro e w5 ⟨b3, rfl, hm5, hc5⟩
      replace hE := Aside0.mk (hE.out.next hm5 hc5)
      clear hm5 hc5
      obtain ⟨W5, hW5⟩ : ∃ W, W = w5.alloc (.cells #[.string y1, .string y2, .bool b3, .bool false, .string ⟨#[]⟩] 54 (0, 0)) := ⟨_, rfl⟩
      obtain ⟨gd, hgd⟩ : ∃ x, x = w5.heap.size := ⟨_, rfl⟩
      have hlt5 := hE.out.own.lt
      have hvb := Aside0.mk (fun k e => show k < gd by rw [hgd]; exact (hlt5 k e).2)
      have hbx : W5.heap[gd]? = some (.cells #[.string y1, .string y2, .bool b3, .bool false, .string ⟨#[]⟩] 54 (0, 0)) := by rw [hgd, hW5]; exact Array.getElem?_push_size
      have hgg : gd ≠ g := by have := hE.out.cur.lt; omega
      have hwg := Aside0.mk (show w1.heap.size ≤ gd by rw [hgd]; exact hE.out.mv.size)
      replace hE := Aside0.mk (hE.out.new (.cells #[.string y1, .string y2, .bool b3, .bool false, .string ⟨#[]⟩] 54 (0, 0)))
      rw [← hW5] at hE
      have HW5 := Aside0.mk hW5
      have hgl : gd < W5.heap.size := (Array.getElem?_eq_some_iff.1 hbx).1
      clear hlt5 hW5
      go_upto_region 7 with fail
      rw [← HW5.out, ← hgd]
      clear hgd HW5
      go_wp2_with fail
      refine (l1Once_calls g 2 _ (by decide) (by decide) hE.out.cur).mono ?_
      rintro e w7 ⟨b2, rfl, hm7, hc7⟩
      have hbx := (hm7.block gd hgl hgg).trans hbx
      replace hE := Aside0.mk (hE.out.next hm7 hc7)
      clear hm7 hc7 hgl
      cases b2 with
      | false =>
        obtain ⟨d0, d1, d2, d3, d4, _⟩ := cells5 hbx
        go_wp2_with (at_builtin; refine app_def hE.out rfl _ _ rfl rfl ⟨y1, y2, b3, false, ⟨#[]⟩⟩ rfl (by omega) ?_)
        intro v10 w10 hE10
        replace hE10 := Aside0.mk hE10
        clear d0 d1 d2 d3 d4 hbx hE
        go_wp2
        go_roundg (gk - 1)
        case measure => omega
        case rel => exact ⟨_, by rw [show ((gk - 1 : Nat) : Int) = (gk : Int) - 1 by omega], by rw [List.length_append, List.length_singleton]; omega, hE10.out⟩
      | true =>
        obtain ⟨d0, d1, d2, d3, d4, g0, g1, g2, g3, g4⟩ := cells5 hbx
        go_upto_region 9 with fail
        obtain ⟨X8, hX8, hbx8, hXm8⟩ := put5_3 hbx (.bool true)
        rw [← hX8]
        replace hE := Aside0.mk (hE.out.put hXm8 hwg.out hvb.out)
        clear d0 d1 d2 d3 d4 g0 g1 g2 g3 g4 hX8 hXm8 hbx
        have hgl : gd < X8.heap.size := (Array.getElem?_eq_some_iff.1 hbx8).1
        go_wp2_with fail
        refine (pick_calls 3 [⟨#[]⟩, ⟨#[120]⟩, ⟨#[121, 32, 122]⟩] (by decide) (by decide) (by decide) g _ hE.out.cur).mono ?_
        rintro e w9 ⟨y5, rfl, hy5, hm9, hc9⟩
        have hbx9 := (hm9.block gd hgl hgg).trans hbx8
        replace hE := Aside0.mk (hE.out.next hm9 hc9)
        clear hm9 hc9 hbx8 hgl
        obtain ⟨d0, d1, d2, d3, d4, g0, g1, g2, g3, g4⟩ := cells5 hbx9
        go_upto_region 10 with fail
        obtain ⟨X9, hX9, hbx, hXm9⟩ := put5_4 hbx9 (.string y5)
        rw [← hX9]
        replace hE := Aside0.mk (hE.out.put hXm9 hwg.out hvb.out)
        clear d0 d1 d2 d3 d4 g0 g1 g2 g3 g4 hX9 hXm9 hbx9
        obtain ⟨d0, d1, d2, d3, d4, _⟩ := cells5 hbx
        go_wp2_with (at_builtin; refine app_def hE.out rfl _ _ rfl rfl ⟨y1, y2, b3, true, y5⟩ rfl (by omega) ?_)
        intro v10 w10 hE10
        replace hE10 := Aside0.mk hE10
        clear d0 d1 d2 d3 d4 hbx hE
        go_wp2
        go_roundg (gk - 1)
        case measure => omega
        case rel => exact ⟨_, by rw [show ((gk - 1 : Nat) : Int) = (gk : Int) - 1 by omega], by rw [List.length_append, List.length_singleton]; omega, hE10.out⟩
    · have h1 : gk = 0 := by omega
      subst h1
      obtain ⟨A', c', hv6, hlc, hrow⟩ := defs_row hE.out.own
      subst hv6
      have hHR := Aside0.mk (hrow.mono (fun k _ => trivial) : Row Kd.df _ (fun _ => True) A' ys)
      clear hrow
      by_cases hy0 : ys.length = 0
      · obtain rfl : ys = [] := List.length_eq_zero_iff.1 hy0
        clear hy0
        go_upto_region 14 with fail
        go_wp2_with fail
        refine (pick_calls 4 [⟨#[97]⟩, ⟨#[105, 116, 101, 109]⟩, ⟨#[98]⟩] (by decide) (by decide) (by decide) g _ hE.out.cur).mono ?_
        rintro e w13 ⟨y1, rfl, hy1, hm13, hc13⟩
        have hE13 := Aside0.mk (hE.out.next hm13 hc13)
        clear hm13 hc13
        go_wp2_with fail
        refine (pick_calls 2 [⟨#[105, 100]⟩, ⟨#[107]⟩, ⟨#[118]⟩] (by decide) (by decide) (by decide) g _ hE13.out.cur).mono ?_
        rintro e w14 ⟨y2, rfl, hy2, hm14, hc14⟩
        have hE14 := Aside0.mk (hE13.out.next hm14 hc14)
        clear hm14 hc14
        have hfin := Aside0.mk (show Row Kd.df w14 (fun _ => True) A' [] ∧ Below w.heap.size w w14 from ⟨by
          obtain ⟨_, _, he, _, hr'⟩ := defs_row hE14.out.own
          cases he
          exact hr'.mono (fun _ _ => trivial), below_moved hB.out hE14.out.mv hg⟩)
        go_wp2
        go_ret3
        exact ⟨A', c', [], _, _, rfl, hfin.out⟩
      · have hy0i : (0 : Int) < (ys.length : Int) := by omega
        go_wp2_with fail
        refine (l1Once_calls g 3 _ (by decide) (by decide) hE.out.cur).mono ?_
        rintro e w10 ⟨b10, rfl, hm10, hc10⟩
        have hE10 := Aside0.mk (hE.out.next hm10 hc10)
        clear hm10 hc10 hE
        cases b10 with
        | true =>
          go_upto_region 14 with fail
          go_wp2_with fail
          refine (pick_calls 4 [⟨#[97]⟩, ⟨#[105, 116, 101, 109]⟩, ⟨#[98]⟩] (by decide) (by decide) (by decide) g _ hE10.out.cur).mono ?_
          rintro e w13 ⟨y1, rfl, hy1, hm13, hc13⟩
          have hE13 := Aside0.mk (hE10.out.next hm13 hc13)
          clear hm13 hc13
          go_wp2_with fail
          refine (pick_calls 2 [⟨#[105, 100]⟩, ⟨#[107]⟩, ⟨#[118]⟩] (by decide) (by decide) (by decide) g _ hE13.out.cur).mono ?_
          rintro e w14 ⟨y2, rfl, hy2, hm14, hc14⟩
          have hE14 := Aside0.mk (hE13.out.next hm14 hc14)
          clear hm14 hc14
          have hfin := Aside0.mk (show Row Kd.df w14 (fun _ => True) A' ys ∧ Below w.heap.size w w14 from ⟨by
            obtain ⟨_, _, he, _, hr'⟩ := defs_row hE14.out.own
            cases he
            exact hr'.mono (fun _ _ => trivial), below_moved hB.out hE14.out.mv hg⟩)
          go_wp2
          go_ret3
          exact ⟨A', c', ys, _, _, rfl, hfin.out⟩
        | false =>
          have hmax := hHR.out.max
          go_wp2_with fail
          refine (l1Below_calls g (ys.length : Int) _ (by omega) (by omega) hE10.out.cur).mono ?_
          rintro e w11 ⟨x, rfl, hx0, hx1, hm11, hc11⟩
          have hE11 := Aside0.mk (hE10.out.next hm11 hc11)
          clear hm11 hc11 hE10
          obtain ⟨j, rfl⟩ : ∃ j : Nat, x = j := ⟨x.toNat, by omega⟩
          have hj : j < ys.length := by omega
          have hrow : Row Kd.df w11 (fun _ => True) A' ys := by
            obtain ⟨_, _, he, _, hr'⟩ := defs_row hE11.out.own
            cases he
            exact hr'.mono (fun _ _ => trivial)
          obtain ⟨bb, o, rfl, hbb, c0, c1, c2, c3, c4⟩ := df_at hrow j hj
          obtain ⟨d, hd⟩ : ∃ d, d = ys[j]'hj := ⟨_, rfl⟩
          rw [← hd] at c0 c1 c2 c3 c4
          clear hd hx1
          have hji : (j : Int) < (ys.length : Int) := by omega
          obtain ⟨W12, hW12, HB12, hsz12, HG12⟩ := boxed w11 #[.string d.el, .string d.at_, .bool d.id, .bool d.has, .string d.val] 54
          have HW12 := Aside0.mk hW12
          have hfin := Aside0.mk (show Row Kd.df W12.drew (fun _ => True) (some ⟨bb, o, none⟩) ys ∧ Below w.heap.size w W12.drew from ⟨(hrow.below HB12).below (below_drew (Below.refl _ _)), below_then (below_moved hB.out hE11.out.mv hg) (below_drew HB12)⟩)
          clear hW12 hrow HB12
          go_upto_region 13 with fail
          rw [← HW12.out]
          clear c0 c1 c2 c3 c4
          obtain ⟨e0, e1, _⟩ := cells5 HG12
          go_region_with fail
          all_goals
            go_wp2
            go_ret3
            exact ⟨some ⟨bb, o, none⟩, c', ys, _, _, rfl, hfin.out⟩
end Go.Proofs.YtmfkdgdamepbcaaGreatDoor
end
