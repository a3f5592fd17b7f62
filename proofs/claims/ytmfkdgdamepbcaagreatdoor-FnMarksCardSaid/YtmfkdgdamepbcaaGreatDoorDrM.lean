/- Joined: DrawMk, DrawMa. -/
import Derived.Test.YtmfkdgdamepbcaaGreatDoorDraw
import Derived.Test.YtmfkdgdamepbcaaGreatDoorBend
import Derived.Test.YtmfkdgdamepbcaaGreatDoorEnts
import Derived.Test.YtmfkdgdamepbcaaGreatDoorOwnG
import Derived.Test.YtmfkdgdamepbcaaGreatDoorBase
import Derived.Test.YtmfkdgdamepbcaaGreatDoorEntL
import Derived.Test.YtmfkdgdamepbcaaGreatDoorClone
import Derived.Laws.AppendOwn
section
/- What FnMarks draws. -/
namespace Go.Proofs.YtmfkdgdamepbcaaGreatDoor
open Go.RowKit Go.Lib
set_option linter.unusedVariables false
set_option linter.unusedSimpArgs false
set_option maxHeartbeats 0
set_option maxRecDepth 100000
/-- One of some texts, at most n bytes long. -/
theorem pick_calls (n : Nat) (xs : List ByteArray) (hn : ∀ x ∈ xs, (x : ByteArray).size ≤ n) (h0 : 0 < xs.length) (hm : xs.length ≤ 1000) (g : Nat) (w : World) (hc : Cur w g) :
    Calls Tryz.prog 33 #[.pointer (some ⟨g, 0, none⟩), .slice (some ⟨w.heap.size, 0, none⟩) xs.length xs.length] (w.alloc (.cells (xs.map Value.string).toArray 9 (0, 0))) fun e w' => ∃ z, e = .returned (.string z) ∧ z.size ≤ n ∧ Moved g w w' ∧ Cur w' g := by
  have hlt := hc.lt
  refine (l1Str_calls g _ _ xs _ (hc.alloc _) h0 (Nat.le_refl _) (row_lit xs (by omega) (Nat.le_trans hm (by decide)))).mono ?_
  rintro e w1 ⟨z, rfl, hz, hm1, hc1⟩
  exact ⟨z, rfl, hn z hz, ((Moved.refl g w).alloc _).trans hm1, hc1⟩
def texts6 : List ByteArray := [⟨#[60, 97, 62]⟩, ⟨#[60, 97, 47, 62]⟩, ⟨#[60, 47, 97, 62]⟩, ⟨#[60, 47, 97, 32, 62]⟩, ⟨#[60, 32, 97, 62]⟩, ⟨#[60, 97, 32, 98, 61, 39, 49, 39, 62]⟩, ⟨#[60, 97, 32, 98, 61, 34, 49, 34, 32, 99, 32, 61, 32, 39, 50, 39, 32, 47, 62]⟩, ⟨#[60, 97, 32, 98, 61, 39, 49, 39, 99, 61, 39, 50, 39, 62]⟩, ⟨#[60, 97, 32, 98, 62]⟩, ⟨#[60, 97, 32, 98, 61, 39, 60, 39, 62]⟩, ⟨#[60, 97, 32, 98, 61, 39, 38, 108, 116, 59, 10, 38, 35, 49, 48, 59, 39, 62]⟩, ⟨#[60, 33, 45, 45, 110, 45, 45, 62]⟩, ⟨#[60, 33, 45, 45, 62]⟩, ⟨#[60, 33, 45, 45, 45, 62]⟩, ⟨#[60, 33, 45, 45, 32, 45, 45, 32, 45, 45, 62]⟩, ⟨#[60, 63, 116, 63, 62]⟩, ⟨#[60, 63, 116, 32, 103, 111, 63, 62]⟩, ⟨#[60, 63, 116, 32, 32, 103, 111, 32, 63, 62]⟩, ⟨#[60, 63, 116, 103, 111]⟩, ⟨#[60, 63, 32, 116, 63, 62]⟩, ⟨#[60, 33, 91, 67, 68, 65, 84, 65, 91, 60, 38, 93, 93, 62]⟩, ⟨#[60, 33, 91, 67, 68, 65, 84, 65, 91, 93, 93, 62]⟩, ⟨#[60, 33, 91, 67, 68, 65, 84, 65, 91, 93, 93]⟩, ⟨#[116, 101, 120, 116]⟩, ⟨#[97, 38, 97, 109, 112, 59, 98]⟩, ⟨#[97, 93, 93, 62, 98]⟩, ⟨#[38, 101, 59]⟩, ⟨#[38, 110, 111, 112, 101, 59]⟩, ⟨#[60, 112, 58, 97, 32, 120, 109, 108, 110, 115, 58, 112, 61, 39, 117, 39, 62]⟩, ⟨#[60, 97, 58, 98, 58, 99, 47, 62]⟩, ⟨#[60, 97]⟩, ⟨#[60]⟩, ⟨#[60, 97, 32, 98, 61, 39, 38, 101, 59, 39, 47, 62]⟩, ⟨#[60, 33, 68, 79, 67, 84, 89, 80, 69, 32, 97, 62]⟩, ⟨#[60, 47, 97]⟩, ⟨#[60, 97, 32, 98, 61, 39, 49, 34, 62]⟩]
theorem texts6_le : ∀ x ∈ texts6, (x : ByteArray).size ≤ 50 := by decide
theorem l6Text_calls (g : Nat) (w : World) (hc : Cur w g) :
    Calls Tryz.prog 34 #[.pointer (some ⟨g, 0, none⟩)] w fun e w' => ∃ r, e = .returned (.string r) ∧ r.size ≤ 50 ∧ Moved g w w' ∧ Cur w' g := by
  go_enter Tryz.func34, Tryz.ntmps34
  go_wp2_with fail
  refine (pick_calls 50 texts6 texts6_le (by decide) (by decide) g w hc).mono ?_
  rintro e w1 ⟨z, rfl, hz, hm1, hc1⟩
  go_wp2
  go_ret
  exact ⟨_, rfl, hz, hm1, hc1⟩
def texts1 : List ByteArray := [⟨#[97]⟩, ⟨#[98, 32, 99]⟩, ⟨#[32]⟩, ⟨#[10]⟩, ⟨#[195, 169]⟩, ⟨#[226, 130, 172]⟩, ⟨#[240, 159, 152, 128]⟩, ⟨#[60]⟩, ⟨#[38]⟩, ⟨#[62]⟩, ⟨#[34]⟩, ⟨#[39]⟩, ⟨#[93, 93, 62]⟩, ⟨#[45, 45]⟩, ⟨#[9]⟩, ⟨#[13]⟩, ⟨#[0]⟩, ⟨#[255]⟩, ⟨#[192, 128]⟩, ⟨#[239, 191, 190]⟩]
theorem texts1_le : ∀ x ∈ texts1, (x : ByteArray).size ≤ 4 := by decide
theorem l1Text_calls (g : Nat) (w : World) (hc : Cur w g) :
    Calls Tryz.prog 79 #[.pointer (some ⟨g, 0, none⟩)] w fun e w' => ∃ r, e = .returned (.string r) ∧ r.size ≤ 700 ∧ Moved g w w' ∧ Cur w' g := by
  go_enter Tryz.func79, Tryz.ntmps79
  go_wp2_with fail
  refine (l1Below_calls g 4 w (by decide) (by decide) hc).mono ?_
  rintro e w1 ⟨x, rfl, hx0, hx1, hm1, hc1⟩
  have hx3 : x ≤ 3 := by omega
  clear hx1 hc
  go_wp2_with fail
  go_loopg [3, 4] x.toNat (fun k s i wr => ∃ z : ByteArray, s = .string z ∧ i = .int .i64 (k : Int) ∧ z.size + 4 * k ≤ 12 ∧ k ≤ 3 ∧ Moved g w wr ∧ Cur wr g)
  case atStart => exact ⟨_, rfl, by rw [show ((x.toNat : Nat) : Int) = x by omega], by show 0 + 4 * x.toNat ≤ 12; omega, by omega, hm1, hc1⟩
  case round =>
    obtain ⟨z, rfl, rfl, hz, hk, hmr, hcr⟩ := hrel
    clear hm1 hc1
    by_cases h0 : 0 < gk
    · have h1 : (0 : Int) < (gk : Int) := by omega
      go_wp2_with fail
      refine (pick_calls 4 texts1 texts1_le (by decide) (by decide) g _ hcr).mono ?_
      rintro e w2 ⟨y, rfl, hy, hm2, hc2⟩
      have hm3 := hmr.trans hm2
      clear hm2 hmr hcr
      go_wp2
      go_roundg (gk - 1)
      case measure => omega
      case rel => exact ⟨_, rfl, by rw [show ((gk - 1 : Nat) : Int) = (gk : Int) - 1 by omega], by rw [ByteArray.size_append]; omega, by omega, hm3, hc2⟩
    · have h1 : gk = 0 := by omega
      subst h1
      go_wp2_with fail
      refine (l1Once_calls g 40 _ (by decide) (by decide) hcr).mono ?_
      rintro e w2 ⟨b, rfl, hm2, hc2⟩
      have hm3 := hmr.trans hm2
      have hz9 : z.size ≤ 601 := by omega
      clear hm2 hmr hcr hz h0 hk
      cases b
      · go_wp2
        go_ret
        exact ⟨_, rfl, by omega, hm3, hc2⟩
      · go_wp2_with fail
        go_loopg [3] (602 - z.size) (fun k s wr => ∃ y : ByteArray, s = .string y ∧ y.size ≤ 601 ∧ y.size + k = 602 ∧ Moved g w wr ∧ Cur wr g)
        case atStart => exact ⟨_, rfl, hz9, by omega, hm3, hc2⟩
        case round =>
          obtain ⟨y, rfl, hy, hyk, hmr, hcr⟩ := hrel
          clear hm3 hc2
          have hlt := hcr.lt
          go_wp2_with fail
          refine (l1Int_calls g _ _ [600, 601] _ (hcr.alloc _) (by decide) (Nat.le_refl _) (row_lit _ (by omega) (by decide))).mono ?_
          rintro e w4 ⟨v, rfl, hv, hm4, hc4⟩
          have hm5 := (hmr.alloc _).trans hm4
          have hv1 : v ≤ 601 := by simp only [List.mem_cons, List.mem_nil_iff, or_false] at hv; omega
          clear hv hm4 hmr hcr
          by_cases hlt2 : (y.size : Int) < v
          · go_wp2
            go_roundg (gk - 1)
            case measure => omega
            case rel => exact ⟨_, rfl, by rw [ByteArray.size_append, show (ByteArray.mk #[120]).size = 1 from rfl]; omega, by rw [ByteArray.size_append, show (ByteArray.mk #[120]).size = 1 from rfl]; omega, hm5, hc4⟩
          · go_wp2
            go_ret
            exact ⟨_, rfl, by omega, hm5, hc4⟩
theorem own_moved {size n base g : Nat} {e : TypeId} {v : Value} {cells : List Value} {w w1 : World} (h : w.ownsRow base e size v n cells) (hm : Moved g w w1) (hg : g < base) : w1.ownsRow base e size v n cells := by
  obtain ⟨hcl, hh⟩ := h
  refine ⟨hcl, ?_⟩
  rcases hh with hh | ⟨b, cap, cur, rfl, hb, hh, hl⟩
  · exact .inl hh
  · exact .inr ⟨b, cap, cur, rfl, hb, (hm.block b (Array.getElem?_eq_some_iff.1 hh).1 (by omega)).trans hh, hl⟩
theorem dm_ge {w : World} {base : Nat} {e : TypeId} {sz : Nat} {v : Value} {n : Nat} {cells : List Value} (h : w.ownsRow base e sz v n cells) : ∀ k, v.ownBlock = some k → base ≤ k := fun k hk => (h.lt k hk).1
theorem dm_row {w : World} {base : Nat} {e : TypeId} {v : Value} {xs : List Dcl} (h : w.ownsRow base e 2 v xs.length (xs.flatMap Dcl.cells)) : ∃ A c, v = .slice A xs.length c ∧ xs.length ≤ c ∧ Row Kd.dcl w (fun k => base ≤ k) A xs := by
  have h' := flat_own (enc := Dcl.cells) (n := 2) (hn := fun _ => rfl) (ok := fun k => base ≤ k) h
  exact h'.row (ok' := fun k => base ≤ k) (fun _ h => h) (fun k hk => (h'.base_le k hk).1)
/-- The Ents that are drawn so far. -/
structure EA (W : World) (g : Nat) (v : Value) (xs : List Dcl) (w : World) : Prop where
  own : w.ownsRow W.heap.size 57 2 v xs.length (xs.flatMap Dcl.cells)
  mv : Moved g W w
  cur : Cur w g
  hg : g < W.heap.size
  small : ∀ d ∈ xs, d.pre.size ≤ 1048576 ∧ d.uri.size ≤ 1048576
theorem EA.next {W w w1 : World} {g : Nat} {v : Value} {xs : List Dcl} (h : EA W g v xs w) (hm : Moved g w w1) (hc : Cur w1 g) : EA W g v xs w1 := ⟨own_moved h.own hm h.hg, h.mv.trans hm, hc, h.hg, h.small⟩
theorem app_ents {W w : World} {g : Nat} {v : Value} {ys : List Dcl} {ops : Array Oper} {rest : List Oper} {o : Oper} {a : Act} {Q : Exit → Act → World → Prop} (h : EA W g v ys w) (hgd : o.guard = none) (s x : Operand)
    (ho : o.op = .call { callee := .builtin .append, args := #[s, x], argTypes := #[24, 24] }) (hs : a.eval s = v) (xs : List Dcl) (n : Nat) (T : TypeId) (cs : Array Value) (hn : xs.length = n) (hcs : cs = (xs.flatMap Dcl.cells).toArray)
    (hx : a.eval x = .slice (some ⟨w.heap.size, 0, none⟩) n n) (hl : ys.length + n ≤ 1000) (hz : ∀ d ∈ xs, d.pre.size ≤ 1048576 ∧ d.uri.size ≤ 1048576)
    (hk : ∀ v' w', EA W g v' (ys ++ xs) w' → wpList Tryz.prog ops Q rest (a.put o.dst v') w') : wpList Tryz.prog ops Q (o :: rest) a (w.alloc (.cells cs T (0, 0))) := by
  subst hn
  subst hcs
  obtain ⟨i, hi, hz0, hz1, hz2⟩ := info_parts Tryz.info_Ent
  have hg : (w.alloc (.cells (xs.flatMap Dcl.cells).toArray T (0, 0))).heap[w.heap.size]? = some (.cells (xs.flatMap Dcl.cells).toArray T (0, 0)) := Array.getElem?_push_size
  refine wpList_append_own _ hgd s x 24 ho W.heap.size 57 i _ 2 32 Tryz.underlying24 hi hz0 hz1 hz2 rfl (by decide) v ys.length (ys.flatMap Dcl.cells) hs (own_below h.own (below_alloc (Below.refl _ _) _)) ⟨w.heap.size, 0, none⟩ xs.length xs.length (xs.flatMap Dcl.cells) hx (flat_length (enc := Dcl.cells) (n := 2) (fun _ => rfl) xs) ?_ ?_ (by unfold maxLen; omega) (by omega) (Nat.le_trans h.mv.size (below_alloc (Below.refl _ _) _).size) ?_
  · intro j u hj
    rw [Addr.add_lit, cell_of_row _ _ _ _ _ _ hg, Nat.zero_add, ← hj]
    simp
  · intro u hu
    obtain ⟨d, _, hd⟩ := List.mem_flatMap.1 hu
    simp only [Dcl.cells, List.mem_cons, List.not_mem_nil, or_false] at hd
    rcases hd with rfl | rfl <;> rfl
  · intro v' w' hown hgrow _
    have hv := dm_ge h.own
    refine hk v' w' ⟨by rw [List.length_append, List.flatMap_append]; exact hown, bd_grown (h.mv.alloc _) hgrow hv, (h.cur.alloc _).grown hgrow (fun k e => Nat.lt_of_lt_of_le h.hg (hv k e)), h.hg, fun d hd => (List.mem_append.1 hd).elim (h.small d) (hz d)⟩
theorem two_small {a b : ByteArray} (ha : a.size ≤ 1048576) (hb : b.size ≤ 1048576) : ∀ d ∈ ([⟨a, b⟩] : List Dcl), d.pre.size ≤ 1048576 ∧ d.uri.size ≤ 1048576 := by
  intro d hd
  simp only [List.mem_singleton] at hd
  subst hd
  exact ⟨ha, hb⟩
theorem l3Ents_calls (g : Nat) (w : World) (hc : Cur w g) :
    Calls Tryz.prog 38 #[.pointer (some ⟨g, 0, none⟩)] w fun e w' => ∃ A c, ∃ xs : List Dcl, e = .returned (.slice A xs.length c) ∧ xs.length ≤ c ∧ Row Kd.dcl w' (fun k => w.heap.size ≤ k) A xs ∧ (∀ d ∈ xs, d.pre.size ≤ 1048576 ∧ d.uri.size ≤ 1048576) ∧ Moved g w w' ∧ Cur w' g := by
  have hlt := hc.lt
  have hEA := Aside0.mk (EA.mk (W := w) (g := g) (v := .slice (some ⟨w.heap.size, 0, none⟩) 0 0) (xs := []) (w := w.alloc (.cells #[] 57 (0, 0))) (World.ownsRow_made w #[] 0 (Nat.le_refl _) (Nat.zero_le _) rfl) ((Moved.refl g w).alloc _) (hc.alloc _) hlt (fun d hd => by cases hd))
  clear hlt
  go_enter Tryz.func38, Tryz.ntmps38
  go_wp2_with fail
  refine (l1Below_calls g 3 _ (by decide) (by decide) (hc.alloc _)).mono ?_
  rintro e w1 ⟨x, rfl, hx0, hx1, hm1, hc1⟩
  have hx3 : x ≤ 2 := by omega
  have hEA := Aside0.mk (hEA.out.next hm1 hc1)
  clear hx1 hc hm1 hc1
  go_wp2_with fail
  go_loopg [3, 4] x.toNat (fun k s i wr => ∃ ys : List Dcl, i = .int .i64 (k : Int) ∧ ys.length + k ≤ 2 ∧ Aside (EA w g s ys wr))
  case atStart => exact ⟨[], by rw [show ((x.toNat : Nat) : Int) = x by omega], by show 0 + x.toNat ≤ 2; omega, hEA.out⟩
  case round =>
    obtain ⟨ys, rfl, hk, hE⟩ := hrel
    have hE := Aside0.mk hE
    by_cases h0 : 0 < gk
    · have h1 : (0 : Int) < (gk : Int) := by omega
      go_wp2_with fail
      refine (pick_calls 1 [⟨#[101]⟩, ⟨#[102]⟩, ⟨#[103]⟩] (by decide) (by decide) (by decide) g _ hE.out.cur).mono ?_
      rintro e w2 ⟨y1, rfl, hy1, hm2, hc2⟩
      have hE2 := Aside0.mk (hE.out.next hm2 hc2)
      clear hm2 hc2
      go_wp2_with fail
      refine (pick_calls 1 [⟨#[]⟩, ⟨#[49]⟩] (by decide) (by decide) (by decide) g _ hE2.out.cur).mono ?_
      rintro e w3 ⟨y2, rfl, hy2, hm3, hc3⟩
      have hE3 := Aside0.mk (hE2.out.next hm3 hc3)
      clear hm3 hc3
      go_wp2_with fail
      refine (pick_calls 3 [⟨#[]⟩, ⟨#[120]⟩, ⟨#[97, 38, 98]⟩, ⟨#[60]⟩, ⟨#[195, 169, 32]⟩] (by decide) (by decide) (by decide) g _ hE3.out.cur).mono ?_
      rintro e w4 ⟨y3, rfl, hy3, hm4, hc4⟩
      have hE4 := Aside0.mk (hE3.out.next hm4 hc4)
      clear hm4 hc4
      go_wp2_with (at_builtin; refine app_ents hE4.out rfl _ _ rfl rfl [⟨y1 ++ y2, y3⟩] 1 _ _ rfl rfl rfl (by omega) (two_small (by rw [ByteArray.size_append]; omega) (by omega)) ?_)
      intro v5 w5 hE5
      have hE5 := Aside0.mk hE5
      go_wp2
      go_roundg (gk - 1)
      case measure => omega
      case rel => exact ⟨_, by rw [show ((gk - 1 : Nat) : Int) = (gk : Int) - 1 by omega], by rw [List.length_append, List.length_singleton]; omega, hE5.out⟩
    · have h1 : gk = 0 := by omega
      subst h1
      go_wp2_with fail
      refine (l1Once_calls g 10 _ (by decide) (by decide) hE.out.cur).mono ?_
      rintro e w2 ⟨b, rfl, hm2, hc2⟩
      have hE2 := Aside0.mk (hE.out.next hm2 hc2)
      clear hm2 hc2
      cases b
      · go_wp2_with fail
        refine (l1Once_calls g 20 _ (by decide) (by decide) hE2.out.cur).mono ?_
        rintro e w8 ⟨b8, rfl, hm8, hc8⟩
        have hE8 := Aside0.mk (hE2.out.next hm8 hc8)
        clear hm8 hc8
        cases b8
        · obtain ⟨A, c, hv, hle, hr⟩ := dm_row hE8.out.own
          have HF := Aside0.mk (And.intro hv (And.intro hle (And.intro hr (And.intro hE8.out.small (And.intro hE8.out.mv hE8.out.cur)))))
          clear hv hle hr
          go_wp2
          go_ret
          exact ⟨A, c, _, congrArg Ending.returned HF.out.1, HF.out.2⟩
        · go_wp2_with (at_builtin; refine app_ents hE8.out rfl _ _ rfl rfl [⟨⟨#[118]⟩, ⟨#[]⟩⟩, ⟨⟨#[119]⟩, ⟨#[]⟩⟩, ⟨⟨#[120]⟩, ⟨#[]⟩⟩, ⟨⟨#[121]⟩, ⟨#[]⟩⟩] 4 _ _ rfl rfl rfl (by omega) (by decide) ?_)
          intro v9 w9 hE9
          have hE9 := Aside0.mk hE9
          obtain ⟨A, c, hv, hle, hr⟩ := dm_row hE9.out.own
          have HF := Aside0.mk (And.intro hv (And.intro hle (And.intro hr (And.intro hE9.out.small (And.intro hE9.out.mv hE9.out.cur)))))
          clear hv hle hr
          go_wp2
          go_ret
          exact ⟨A, c, _, congrArg Ending.returned HF.out.1, HF.out.2⟩
      · go_wp2_with fail
        refine (pick_calls 3 [⟨#[108, 116]⟩, ⟨#[]⟩, ⟨#[101, 58, 102]⟩, ⟨#[111, 107]⟩] (by decide) (by decide) (by decide) g _ hE2.out.cur).mono ?_
        rintro e w3 ⟨y1, rfl, hy1, hm3, hc3⟩
        have hE3 := Aside0.mk (hE2.out.next hm3 hc3)
        clear hm3 hc3
        go_wp2_with fail
        refine (l1Text_calls g _ hE3.out.cur).mono ?_
        rintro e w4 ⟨y2, rfl, hy2, hm4, hc4⟩
        have hE4 := Aside0.mk (hE3.out.next hm4 hc4)
        clear hm4 hc4
        go_wp2_with (at_builtin; refine app_ents hE4.out rfl _ _ rfl rfl [⟨y1, y2⟩] 1 _ _ rfl rfl rfl (by omega) (two_small (by omega) (by omega)) ?_)
        intro v5 w5 hE5
        have hE5 := Aside0.mk hE5
        go_wp2_with fail
        refine (l1Once_calls g 20 _ (by decide) (by decide) hE5.out.cur).mono ?_
        rintro e w8 ⟨b8, rfl, hm8, hc8⟩
        have hE8 := Aside0.mk (hE5.out.next hm8 hc8)
        clear hm8 hc8
        cases b8
        · obtain ⟨A, c, hv, hle, hr⟩ := dm_row hE8.out.own
          have HF := Aside0.mk (And.intro hv (And.intro hle (And.intro hr (And.intro hE8.out.small (And.intro hE8.out.mv hE8.out.cur)))))
          clear hv hle hr
          go_wp2
          go_ret
          exact ⟨A, c, _, congrArg Ending.returned HF.out.1, HF.out.2⟩
        · go_wp2_with (at_builtin; refine app_ents hE8.out rfl _ _ rfl rfl [⟨⟨#[118]⟩, ⟨#[]⟩⟩, ⟨⟨#[119]⟩, ⟨#[]⟩⟩, ⟨⟨#[120]⟩, ⟨#[]⟩⟩, ⟨⟨#[121]⟩, ⟨#[]⟩⟩] 4 _ _ rfl rfl rfl (by rw [List.length_append, List.length_singleton]; omega) (by decide) ?_)
          intro v9 w9 hE9
          have hE9 := Aside0.mk hE9
          obtain ⟨A, c, hv, hle, hr⟩ := dm_row hE9.out.own
          have HF := Aside0.mk (And.intro hv (And.intro hle (And.intro hr (And.intro hE9.out.small (And.intro hE9.out.mv hE9.out.cur)))))
          clear hv hle hr
          go_wp2
          go_ret
          exact ⟨A, c, _, congrArg Ending.returned HF.out.1, HF.out.2⟩
end Go.Proofs.YtmfkdgdamepbcaaGreatDoor
end
section
/- FnMarks' draws; what is small. -/
namespace Go.Proofs.YtmfkdgdamepbcaaGreatDoor
open Go.RowKit Go.Lib
set_option linter.unusedVariables false
set_option linter.unusedSimpArgs false
set_option maxHeartbeats 0
set_option maxRecDepth 100000
theorem big_calls (A : Option Addr) (n c : Nat) (w : World) : Calls Tryz.prog 7 #[.slice A n c] w fun e w' => e = .returned (.bool (decide ((n : Int) > 1048576))) ∧ w = w' := by
  go_enter Tryz.func7, Tryz.ntmps7
  go_wp2
  go_ret
  exact ⟨rfl, rfl⟩
def blanks5 : List ByteArray := [⟨#[]⟩, ⟨#[32]⟩, ⟨#[97, 32, 10, 9, 98]⟩, ⟨#[32, 32, 32]⟩, ⟨#[13, 10, 97]⟩]
theorem blanks5_le : ∀ x ∈ blanks5, (x : ByteArray).size ≤ 5 := by decide
theorem drawBlanks_calls (A : Option Addr) (c : Nat) (xs : List Int) (w : World) (hl : xs.length ≤ c) (hr : Row (Kd.int .u8) w (fun k => k < w.heap.size) A xs) :
    Calls Tryz.prog 12 #[.slice A xs.length c] w fun e w' => ∃ (s : ByteArray) (i : Int), e = .returned (.tuple #[.string s, .int .i64 i]) ∧ s.size ≤ 5 ∧ -1 ≤ i ∧ i ≤ 5 ∧ Below w.heap.size w w' := by
  go_enter Tryz.func12, Tryz.ntmps12
  go_wp2_with fail
  refine (l1New_calls A c xs w hl hr).mono ?_
  rintro e w1 ⟨g, rfl, hg, hb, hc⟩
  go_wp2_with fail
  refine (pick_calls 5 blanks5 blanks5_le (by decide) (by decide) g _ hc).mono ?_
  rintro e w2 ⟨s, rfl, hs, hm2, hc2⟩
  go_wp2_with fail
  refine (l1Below_calls g 7 _ (by decide) (by decide) hc2).mono ?_
  rintro e w3 ⟨x, rfl, hx0, hx1, hm3, hc3⟩
  have hB := Aside0.mk (below_moved hb (hm2.trans hm3) hg)
  clear hm2 hm3 hb
  go_wp2
  go_ret2
  exact ⟨_, _, rfl, hs, by omega, by omega, hB.out⟩
theorem drawMarkAt_calls (A : Option Addr) (c : Nat) (xs : List Int) (w : World) (hl : xs.length ≤ c) (hr : Row (Kd.int .u8) w (fun k => k < w.heap.size) A xs) :
    Calls Tryz.prog 8 #[.slice A xs.length c] w fun e w' => ∃ (s : ByteArray) (i : Int) (A' : Option Addr) (c' : Nat) (l : List Dcl), e = .returned (.tuple #[.string s, .int .i64 i, .slice A' l.length c']) ∧ s.size ≤ 200 ∧ -9 ≤ i ∧ i ≤ 2 ∧ l.length ≤ c' ∧ Row Kd.dcl w' (fun k => w.heap.size ≤ k) A' l ∧ (∀ d ∈ l, d.pre.size ≤ 1048576 ∧ d.uri.size ≤ 1048576) ∧ Below w.heap.size w w' := by
  go_enter Tryz.func8, Tryz.ntmps8
  go_wp2_with fail
  refine (l1New_calls A c xs w hl hr).mono ?_
  rintro e w1 ⟨g, rfl, hg, hb, hc⟩
  go_wp2_with fail
  refine (pick_calls 1 [⟨#[]⟩, ⟨#[]⟩, ⟨#[120]⟩, ⟨#[32]⟩] (by decide) (by decide) (by decide) g _ hc).mono ?_
  rintro e w2 ⟨y1, rfl, hy1, hm2, hc2⟩
  go_wp2_with fail
  refine (l6Text_calls g _ hc2).mono ?_
  rintro e w3 ⟨y2, rfl, hy2, hm3, hc3⟩
  go_wp2_with fail
  refine (l6Text_calls g _ hc3).mono ?_
  rintro e w4 ⟨y3, rfl, hy3, hm4, hc4⟩
  go_wp2_with fail
  refine (l1Once_calls g 3 _ (by decide) (by decide) hc4).mono ?_
  rintro e w5 ⟨b, rfl, hm5, hc5⟩
  have hM := Aside0.mk (((hm2.trans hm3).trans hm4).trans hm5)
  have hB := Aside0.mk hb
  clear hm2 hm3 hm4 hm5 hc hc2 hc3 hc4 hb
  cases b
  · have hlt := hc5.lt
    go_wp2_with fail
    refine (l1Int_calls g _ _ [0, 0, 0, 0, 1, -9] _ (hc5.alloc _) (by decide) (Nat.le_refl _) (row_lit _ (by omega) (by decide))).mono ?_
    rintro e w7 ⟨v, rfl, hv, hm7, hc7⟩
    have hM7 := Aside0.mk ((hM.out.alloc _).trans hm7)
    have hv0 : -9 ≤ v ∧ v ≤ 1 := by simp only [List.mem_cons, List.mem_nil_iff, or_false] at hv; omega
    have hle7 : w.heap.size ≤ w7.heap.size := (below_moved hB.out hM7.out hg).size
    clear hm7 hv hlt hc5
    go_wp2_with fail
    refine (l3Ents_calls g _ hc7).mono ?_
    rintro e w8 ⟨A', c', l, rfl, hl', hr', hz, hm8, hc8⟩
    have hB8 := Aside0.mk (below_moved hB.out (hM7.out.trans hm8) hg)
    have hR := Aside0.mk (hr'.mono (fun k hk => Nat.le_trans hle7 hk))
    clear hm8 hr'
    go_wp2
    go_ret3
    exact ⟨_, _, A', c', l, rfl, (by rw [ByteArray.size_append, ByteArray.size_append]; omega), by omega, by omega, hl', hR.out, hz, hB8.out⟩
  · go_wp2_with fail
    refine (l1Bend_calls g _ _ (by rw [ByteArray.size_append, ByteArray.size_append]; omega) hc5).mono ?_
    rintro e w6 ⟨z, rfl, hz6, hm6, hc6⟩
    have hz6 : z.size ≤ 200 := by rw [ByteArray.size_append, ByteArray.size_append] at hz6; omega
    have hM := Aside0.mk (hM.out.trans hm6)
    have hc5 := hc6
    clear hm6 hc6
    have hlt := hc5.lt
    go_wp2_with fail
    refine (l1Int_calls g _ _ [0, 0, 0, 0, 1, -9] _ (hc5.alloc _) (by decide) (Nat.le_refl _) (row_lit _ (by omega) (by decide))).mono ?_
    rintro e w7 ⟨v, rfl, hv, hm7, hc7⟩
    have hM7 := Aside0.mk ((hM.out.alloc _).trans hm7)
    have hv0 : -9 ≤ v ∧ v ≤ 1 := by simp only [List.mem_cons, List.mem_nil_iff, or_false] at hv; omega
    have hle7 : w.heap.size ≤ w7.heap.size := (below_moved hB.out hM7.out hg).size
    clear hm7 hv hlt hc5
    go_wp2_with fail
    refine (l3Ents_calls g _ hc7).mono ?_
    rintro e w8 ⟨A', c', l, rfl, hl', hr', hz, hm8, hc8⟩
    have hB8 := Aside0.mk (below_moved hB.out (hM7.out.trans hm8) hg)
    have hR := Aside0.mk (hr'.mono (fun k hk => Nat.le_trans hle7 hk))
    clear hm8 hr'
    go_wp2
    go_ret3
    exact ⟨_, _, A', c', l, rfl, hz6, by omega, by omega, hl', hR.out, hz, hB8.out⟩
end Go.Proofs.YtmfkdgdamepbcaaGreatDoor
end
