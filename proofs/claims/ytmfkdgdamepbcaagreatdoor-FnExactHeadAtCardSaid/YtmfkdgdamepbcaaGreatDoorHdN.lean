/- Joined: MarkT, HdT, HdL. -/
import Derived.Test.YtmfkdgdamepbcaaGreatDoorEntL
import Derived.Test.YtmfkdgdamepbcaaGreatDoorBase
import Derived.Laws.BytesArg
import Derived.Test.YtmfkdgdamepbcaaGreatDoorHdA
section
/- The laws' marks: markText; rows of two texts that are marked and held. -/
namespace Go.Proofs.YtmfkdgdamepbcaaGreatDoor
open Go.RowKit
set_option linter.unusedVariables false
set_option linter.unusedSimpArgs false
set_option maxRecDepth 20000
set_option maxHeartbeats 4000000
def mkD : Nat → Nat → ByteArray → ByteArray
  | 0, _, out => out
  | f + 1, k, out => if k = 0 then out else mkD f (k / 10) (strOfNums [48 + ((k % 10 : Nat) : Int)] ++ out)
def markB (k : Nat) : ByteArray := (⟨#[109]⟩ : ByteArray) ++ mkD k k ⟨#[]⟩
theorem mkD_fuel : ∀ (f f' k : Nat) (out : ByteArray), k ≤ f → k ≤ f' → mkD f k out = mkD f' k out
  | 0, 0, _, _, _, _ => rfl
  | 0, f' + 1, k, out, h, _ => by rw [mkD, mkD, if_pos (by omega)]
  | f + 1, 0, k, out, _, h => by rw [mkD, mkD, if_pos (by omega)]
  | f + 1, f' + 1, k, out, h1, h2 => by
    rw [mkD, mkD]
    split
    · rfl
    · rw [mkD_fuel f f' (k / 10) _ (by omega) (by omega)]
theorem mkD_at {k : Nat} {out : ByteArray} (h : ¬ k = 0) : mkD k k out = mkD (k / 10) (k / 10) (strOfNums [48 + ((k % 10 : Nat) : Int)] ++ out) := by
  obtain ⟨j, rfl⟩ : ∃ j, k = j + 1 := ⟨k - 1, by omega⟩
  rw [mkD, if_neg h, mkD_fuel j ((j + 1) / 10) _ _ (by omega) (by omega)]
theorem conv_byte (W : World) (u : Int) : (convert 22 9 (.slice (some ⟨W.heap.size, 0, none⟩) 1 1)).run Tryz.prog (W.alloc (.cells #[.int .u8 u] 5)) = .ok (.string (strOfNums [u])) (W.alloc (.cells #[.int .u8 u] 5)) := by
  refine run_convert_bytes_arg (P := Tryz.prog) _ 22 5 Tryz.underlying22 Tryz.underlying5 W.heap.size 0 1 1 [u] rfl ?_ 9 Tryz.underlying9
  intro i hi
  obtain rfl : i = 0 := by omega
  simp
theorem markText_calls (k : Nat) (w : World) (h1 : 1 ≤ k) (h2 : k ≤ 1099511627776) :
    Calls Tryz.prog 52 #[.int .i64 (k : Nat)] w fun e w' => e = .returned (.string (markB k)) ∧ Below w.heap.size w w' := by
  obtain ⟨R, hR⟩ : ∃ R, R = mkD k k ⟨#[]⟩ := ⟨_, rfl⟩
  have hv := Aside0.mk (show markB k = (⟨#[109]⟩ : ByteArray) ++ R by rw [markB, hR])
  have hR := Aside0.mk hR
  go_enter Tryz.func52, Tryz.ntmps52
  go_wp2
  go_loopg [0, 3] k (fun g x s wr => ∃ (j : Nat) (t : ByteArray), x = .int .i64 (j : Nat) ∧ s = .string t ∧ j = g ∧ t.size + j ≤ k ∧ Aside (R = mkD j j t) ∧ Below w.heap.size w wr)
  case atStart => exact ⟨k, _, rfl, rfl, rfl, by show 0 + k ≤ k; omega, hR.out, Below.refl _ _⟩
  case round =>
    obtain ⟨j, t, rfl, rfl, hk, hts, ha, hb⟩ := hrel
    subst hk
    by_cases hj : j = 0
    · subst hj
      have hfin := Aside0.mk (show markB k = (⟨#[109]⟩ : ByteArray) ++ t by rw [hv.out, ha.out]; rfl)
      have hss : ¬ (9223372036854775807 < (⟨#[109]⟩ : ByteArray).size + t.size) := by
        show ¬ (9223372036854775807 < 1 + t.size)
        omega
      clear ha
      go_wp2
      go_ret
      exact ⟨by rw [hfin.out]; rfl, hb⟩
    · have hcv := conv_byte wr
      have ha2 := Aside0.mk (ha.out.trans (mkD_at hj))
      clear ha
      have hss : ∀ u : Int, ¬ (9223372036854775807 < (strOfNums [u]).size + t.size) := fun u => by rw [strOfNums_size]; simp; omega
      have hsz : ∀ u : Int, (strOfNums [u] ++ t).size = 1 + t.size := fun u => by rw [ByteArray.size_append, strOfNums_size]; rfl
      have HSZ := Aside0.mk hsz
      have hjp : (0 : Int) < (j : Int) := by omega
      have ha3 := Aside0.mk (show R = mkD (j / 10) (j / 10) (strOfNums [48 + (j : Int) % 10] ++ t) by rw [ha2.out]; rfl)
      clear hsz
      go_wp2
      go_roundg (j / 10)
      case measure => omega
      case rel => exact ⟨j / 10, _, rfl, rfl, rfl, by rw [HSZ.out]; omega, ha3.out, below_alloc hb _⟩
/-- The cells that marks leave. -/
def marks (k n : Nat) : List Value := (List.range (n * 2)).map fun i => .string (markB (k + i))
theorem marks_get {k n i : Nat} (h : i < n * 2) : (marks k n)[i]? = some (.string (markB (k + i))) := by simp [marks, h]
theorem marks_length (k n : Nat) : (marks k n).length = n * 2 := by simp [marks]
theorem own_grown {base size n : Nat} {e : TypeId} {v : Value} {cells : List Value} {w w1 : World} {ob : Option Nat} (h : w.ownsRow base e size v n cells) (hg : w.grownBy w1 ob) (hne : ∀ k, v.ownBlock = some k → ¬ ob = some k) : w1.ownsRow base e size v n cells := by
  obtain ⟨hcl, hh⟩ := h
  refine ⟨hcl, ?_⟩
  rcases hh with hh | ⟨g, cap, cur, rfl, hb', hh, hl⟩
  · exact .inl hh
  · exact .inr ⟨g, cap, cur, rfl, hb', (hg.block g (Array.getElem?_eq_some_iff.1 hh).1 (fun e => hne g rfl e.symm)).trans hh, hl⟩
theorem moved_by {g : Nat} {w w1 : World} (h : Moved g w w1) : w.grownBy w1 (some g) := ⟨h.os, h.tape, h.output, h.size, fun k hk hne => h.block k hk (fun e => hne (by rw [e]))⟩
theorem below_by {w w1 : World} {ob : Option Nat} (h : Below w.heap.size w w1) : w.grownBy w1 ob := ⟨h.os, h.tape, h.output, h.size, fun k hk _ => h.block k hk⟩
theorem markEntS_calls (A : Option Addr) (n c : Nat) (cells : List Value) (k base : Nat) (w : World) (ho : w.ownsRow base 57 2 (.slice A n c) n cells) (hk : 1 ≤ k) (hk2 : k + n * 2 ≤ 1000000000) :
    Calls Tryz.prog 19 #[.slice A n c, .int .i64 (k : Nat)] w fun e w' => e = .returned (.int .i64 ((k + n * 2 : Nat) : Int)) ∧ w'.ownsRow base 57 2 (.slice A n c) n (marks k n) ∧ w.grownBy w' (Value.slice A n c).ownBlock := by
  have hn9 : n ≤ 1000000000 := by omega
  cases A with
  | none =>
    have hn : n = 0 := by
      rcases ho.2 with ⟨_, h⟩ | ⟨g, cap, cur, h, _⟩
      · exact h
      · cases h
    subst hn
    have ho2 := Aside0.mk (show w.ownsRow base 57 2 (.slice none 0 c) 0 (marks k 0) by
      obtain ⟨hl, hh⟩ := ho
      refine ⟨rfl, ?_⟩
      rcases hh with ⟨h, _⟩ | ⟨g, cap, cur, h, _⟩
      · exact .inl ⟨h, rfl⟩
      · cases h)
    clear ho
    go_enter Tryz.func19, Tryz.ntmps19
    go_wp2
    go_loopg [1, 5] 0 (fun gd u i wr => u = .int .i64 (k : Nat) ∧ i = .int .i64 0 ∧ wr = w)
    case atStart => exact ⟨rfl, rfl, rfl⟩
    case round =>
      obtain ⟨rfl, rfl, rfl⟩ := hrel
      go_wp2
      go_ret
      exact ⟨rfl, ho2.out, below_by (Below.refl _ _)⟩
  | some ad =>
    obtain ⟨g, o, sp⟩ := ad
    have hg : g < w.heap.size ∧ (⟨g, o, sp⟩ : Addr) = ⟨g, 0, none⟩ := by
      rcases ho.2 with ⟨h, _⟩ | ⟨g', cap, cur, h, _, hh, _⟩
      · cases h
      · injection h with h _ _
        injection h with h
        injection h with h1 h2 h3
        subst h1 h2 h3
        exact ⟨(Array.getElem?_eq_some_iff.1 hh).1, rfl⟩
    obtain ⟨hg, ha⟩ := hg
    rw [ha] at ho ⊢
    clear ha
    have ho0 := Aside0.mk ho
    have HT := Aside0.mk (fun (j : Nat) W (h : 1 ≤ j) (h2 : j ≤ 1099511627776) => markText_calls j W h h2)
    clear ho
    go_enter Tryz.func19, Tryz.ntmps19
    go_wp2
    go_loopg [1, 5] n (fun gd u i wr => ∃ (j : Nat) (cs : List Value), u = .int .i64 ((k + j * 2 : Nat) : Int) ∧ i = .int .i64 (j : Nat) ∧ j + gd = n ∧ Aside (wr.ownsRow base 57 2 (.slice (some ⟨g, 0, none⟩) n c) n cs) ∧ Aside (∀ i, i < j * 2 → cs[i]? = some (.string (markB (k + i)))) ∧ Aside (Moved g w wr))
    case atStart => exact ⟨0, _, rfl, rfl, by omega, ho0.out, (fun i hi => by omega), Moved.refl _ _⟩
    case round =>
      obtain ⟨j, cs, rfl, rfl, hj, hO, hM, hm⟩ := hrel
      by_cases hlt : j < n
      · have i1 : ((k + j * 2 : Nat) : Int) = (k : Int) + (j : Int) * 2 := by omega
        have HT1 := Aside0.mk (HT.out (k + j * 2) wr (by omega) (by omega))
        go_wp2_with fail
        refine HT1.out.mono ?_
        rintro e w1 ⟨rfl, hb1⟩
        have hO1 := own_below hO.out hb1
        obtain ⟨⟨u0, hu0⟩, hf0⟩ := fill_cellN hO1 (i := j * 2) (by omega)
        have hO2 := Aside0.mk (hO1.stored (j * 2) (.string (markB (k + j * 2)))).1
        have hm2 := Aside0.mk ((hm.out.then hb1).set (o := j * 2) (u := .string (markB (k + j * 2))))
        have HT2 := Aside0.mk (fun W => HT.out (k + j * 2 + 1) W (by omega) (by omega))
        rw [show ((k + j * 2 + 1 : Nat) : Int) = ((k + j * 2 : Nat) : Int) + 1 from rfl] at HT2
        clear hO1
        go_wp2_with fail
        refine (HT2.out _).mono ?_
        rintro e w3 ⟨rfl, hb3⟩
        clear hu0 hf0
        have hO3 := own_below hO2.out hb3
        obtain ⟨⟨u1, hu1⟩, hf1⟩ := fill_cellN hO3 (i := j * 2 + 1) (by omega)
        have hO4 := Aside0.mk (hO3.stored (j * 2 + 1) (.string (markB (k + j * 2 + 1)))).1
        have hm4 := Aside0.mk ((hm2.out.then hb3).set (o := j * 2 + 1) (u := .string (markB (k + j * 2 + 1))))
        have hcl : cs.length = n * 2 := hO.out.1
        have hM4 := Aside0.mk (show ∀ i, i < (j + 1) * 2 → ((cs.set (j * 2) (.string (markB (k + j * 2)))).set (j * 2 + 1) (.string (markB (k + j * 2 + 1))))[i]? = some (.string (markB (k + i))) from fun i hi => by
          rw [List.getElem?_set]
          split
          · rename_i e
            subst e
            rw [if_pos (by rw [List.length_set]; omega)]
            rfl
          · rw [List.getElem?_set]
            split
            · rename_i e
              subst e
              rw [if_pos (by omega)]
            · exact hM.out i (by omega))
        clear hO3 hcl
        go_wp2
        go_roundg (gk - 1)
        case measure => omega
        case rel => exact ⟨j + 1, _, by go_num, by go_num, by omega, hO4.out, hM4.out, hm4.out⟩
      · have hfin := Aside0.mk (show k + j * 2 = k + n * 2 by omega)
        have hO2 := Aside0.mk (show wr.ownsRow base 57 2 (.slice (some ⟨g, 0, none⟩) n c) n (marks k n) by
          have e : cs = marks k n := by
            apply List.ext_getElem?
            intro i
            by_cases hi : i < n * 2
            · rw [hM.out i (by omega), marks_get hi]
            · rw [List.getElem?_eq_none (by rw [hO.out.1]; omega), List.getElem?_eq_none (by rw [marks_length]; omega)]
          rw [← e]; exact hO.out)
        go_wp2
        go_ret
        exact ⟨by rw [← hfin.out]; rfl, hO2.out, moved_by hm.out⟩
theorem markRawS_calls (A : Option Addr) (n c : Nat) (cells : List Value) (k base : Nat) (w : World) (ho : w.ownsRow base 33 2 (.slice A n c) n cells) (hk : 1 ≤ k) (hk2 : k + n * 2 ≤ 1000000000) :
    Calls Tryz.prog 53 #[.slice A n c, .int .i64 (k : Nat)] w fun e w' => e = .returned (.int .i64 ((k + n * 2 : Nat) : Int)) ∧ w'.ownsRow base 33 2 (.slice A n c) n (marks k n) ∧ w.grownBy w' (Value.slice A n c).ownBlock := by
  have hn9 : n ≤ 1000000000 := by omega
  cases A with
  | none =>
    have hn : n = 0 := by
      rcases ho.2 with ⟨_, h⟩ | ⟨g, cap, cur, h, _⟩
      · exact h
      · cases h
    subst hn
    have ho2 := Aside0.mk (show w.ownsRow base 33 2 (.slice none 0 c) 0 (marks k 0) by
      obtain ⟨hl, hh⟩ := ho
      refine ⟨rfl, ?_⟩
      rcases hh with ⟨h, _⟩ | ⟨g, cap, cur, h, _⟩
      · exact .inl ⟨h, rfl⟩
      · cases h)
    clear ho
    go_enter Tryz.func53, Tryz.ntmps53
    go_wp2
    go_loopg [1, 5] 0 (fun gd u i wr => u = .int .i64 (k : Nat) ∧ i = .int .i64 0 ∧ wr = w)
    case atStart => exact ⟨rfl, rfl, rfl⟩
    case round =>
      obtain ⟨rfl, rfl, rfl⟩ := hrel
      go_wp2
      go_ret
      exact ⟨rfl, ho2.out, below_by (Below.refl _ _)⟩
  | some ad =>
    obtain ⟨g, o, sp⟩ := ad
    have hg : g < w.heap.size ∧ (⟨g, o, sp⟩ : Addr) = ⟨g, 0, none⟩ := by
      rcases ho.2 with ⟨h, _⟩ | ⟨g', cap, cur, h, _, hh, _⟩
      · cases h
      · injection h with h _ _
        injection h with h
        injection h with h1 h2 h3
        subst h1 h2 h3
        exact ⟨(Array.getElem?_eq_some_iff.1 hh).1, rfl⟩
    obtain ⟨hg, ha⟩ := hg
    rw [ha] at ho ⊢
    clear ha
    have ho0 := Aside0.mk ho
    have HT := Aside0.mk (fun (j : Nat) W (h : 1 ≤ j) (h2 : j ≤ 1099511627776) => markText_calls j W h h2)
    clear ho
    go_enter Tryz.func53, Tryz.ntmps53
    go_wp2
    go_loopg [1, 5] n (fun gd u i wr => ∃ (j : Nat) (cs : List Value), u = .int .i64 ((k + j * 2 : Nat) : Int) ∧ i = .int .i64 (j : Nat) ∧ j + gd = n ∧ Aside (wr.ownsRow base 33 2 (.slice (some ⟨g, 0, none⟩) n c) n cs) ∧ Aside (∀ i, i < j * 2 → cs[i]? = some (.string (markB (k + i)))) ∧ Aside (Moved g w wr))
    case atStart => exact ⟨0, _, rfl, rfl, by omega, ho0.out, (fun i hi => by omega), Moved.refl _ _⟩
    case round =>
      obtain ⟨j, cs, rfl, rfl, hj, hO, hM, hm⟩ := hrel
      by_cases hlt : j < n
      · have i1 : ((k + j * 2 : Nat) : Int) = (k : Int) + (j : Int) * 2 := by omega
        have HT1 := Aside0.mk (HT.out (k + j * 2) wr (by omega) (by omega))
        go_wp2_with fail
        refine HT1.out.mono ?_
        rintro e w1 ⟨rfl, hb1⟩
        have hO1 := own_below hO.out hb1
        obtain ⟨⟨u0, hu0⟩, hf0⟩ := fill_cellN hO1 (i := j * 2) (by omega)
        have hO2 := Aside0.mk (hO1.stored (j * 2) (.string (markB (k + j * 2)))).1
        have hm2 := Aside0.mk ((hm.out.then hb1).set (o := j * 2) (u := .string (markB (k + j * 2))))
        have HT2 := Aside0.mk (fun W => HT.out (k + j * 2 + 1) W (by omega) (by omega))
        rw [show ((k + j * 2 + 1 : Nat) : Int) = ((k + j * 2 : Nat) : Int) + 1 from rfl] at HT2
        clear hO1
        go_wp2_with fail
        refine (HT2.out _).mono ?_
        rintro e w3 ⟨rfl, hb3⟩
        clear hu0 hf0
        have hO3 := own_below hO2.out hb3
        obtain ⟨⟨u1, hu1⟩, hf1⟩ := fill_cellN hO3 (i := j * 2 + 1) (by omega)
        have hO4 := Aside0.mk (hO3.stored (j * 2 + 1) (.string (markB (k + j * 2 + 1)))).1
        have hm4 := Aside0.mk ((hm2.out.then hb3).set (o := j * 2 + 1) (u := .string (markB (k + j * 2 + 1))))
        have hcl : cs.length = n * 2 := hO.out.1
        have hM4 := Aside0.mk (show ∀ i, i < (j + 1) * 2 → ((cs.set (j * 2) (.string (markB (k + j * 2)))).set (j * 2 + 1) (.string (markB (k + j * 2 + 1))))[i]? = some (.string (markB (k + i))) from fun i hi => by
          rw [List.getElem?_set]
          split
          · rename_i e
            subst e
            rw [if_pos (by rw [List.length_set]; omega)]
            rfl
          · rw [List.getElem?_set]
            split
            · rename_i e
              subst e
              rw [if_pos (by omega)]
            · exact hM.out i (by omega))
        clear hO3 hcl
        go_wp2
        go_roundg (gk - 1)
        case measure => omega
        case rel => exact ⟨j + 1, _, by go_num, by go_num, by omega, hO4.out, hM4.out, hm4.out⟩
      · have hfin := Aside0.mk (show k + j * 2 = k + n * 2 by omega)
        have hO2 := Aside0.mk (show wr.ownsRow base 33 2 (.slice (some ⟨g, 0, none⟩) n c) n (marks k n) by
          have e : cs = marks k n := by
            apply List.ext_getElem?
            intro i
            by_cases hi : i < n * 2
            · rw [hM.out i (by omega), marks_get hi]
            · rw [List.getElem?_eq_none (by rw [hO.out.1]; omega), List.getElem?_eq_none (by rw [marks_length]; omega)]
          rw [← e]; exact hO.out)
        go_wp2
        go_ret
        exact ⟨by rw [← hfin.out]; rfl, hO2.out, moved_by hm.out⟩
theorem heldRawS_calls (A : Option Addr) (n c : Nat) (k base : Nat) (w : World) (ho : w.ownsRow base 33 2 (.slice A n c) n (marks k n)) (hk : 1 ≤ k) (hk2 : k + n * 2 ≤ 1000000000) :
    Calls Tryz.prog 54 #[.slice A n c, .int .i64 (k : Nat)] w fun e w' => e = .returned (.int .i64 ((k + n * 2 : Nat) : Int)) ∧ Below w.heap.size w w' := by
  have hn9 : n ≤ 1000000000 := by omega
  cases A with
  | none =>
    have hn : n = 0 := by
      rcases ho.2 with ⟨_, h⟩ | ⟨g, cap, cur, h, _⟩
      · exact h
      · cases h
    subst hn
    clear ho
    go_enter Tryz.func54, Tryz.ntmps54
    go_wp2
    go_loopg [1, 5] 0 (fun gd u i wr => u = .int .i64 (k : Nat) ∧ i = .int .i64 0 ∧ wr = w)
    case atStart => exact ⟨rfl, rfl, rfl⟩
    case round =>
      obtain ⟨rfl, rfl, rfl⟩ := hrel
      go_wp2
      go_ret
      exact ⟨rfl, Below.refl _ _⟩
  | some ad =>
    obtain ⟨g, o, sp⟩ := ad
    have hg : g < w.heap.size ∧ (⟨g, o, sp⟩ : Addr) = ⟨g, 0, none⟩ := by
      rcases ho.2 with ⟨h, _⟩ | ⟨g', cap, cur, h, _, hh, _⟩
      · cases h
      · injection h with h _ _
        injection h with h
        injection h with h1 h2 h3
        subst h1 h2 h3
        exact ⟨(Array.getElem?_eq_some_iff.1 hh).1, rfl⟩
    obtain ⟨hg, ha⟩ := hg
    rw [ha] at ho ⊢
    clear ha
    have hcell := Aside0.mk (fun i (hi : i < n * 2) => (ho.cellAt i hi).trans (marks_get hi))
    have HT := Aside0.mk (fun (j : Nat) W (h : 1 ≤ j) (h2 : j ≤ 1099511627776) => markText_calls j W h h2)
    clear ho
    go_enter Tryz.func54, Tryz.ntmps54
    go_wp2
    go_loopg [1, 5] n (fun gd u i wr => ∃ (j : Nat), u = .int .i64 ((k + j * 2 : Nat) : Int) ∧ i = .int .i64 (j : Nat) ∧ j + gd = n ∧ Below w.heap.size w wr)
    case atStart => exact ⟨0, rfl, rfl, by omega, Below.refl _ _⟩
    case round =>
      obtain ⟨j, rfl, rfl, hj, hb⟩ := hrel
      by_cases hlt : j < n
      · have i1 : ((k + j * 2 : Nat) : Int) = (k : Int) + (j : Int) * 2 := by omega
        have d0 := ((bcell hb).1 g (j * 2) hg).trans (hcell.out (j * 2) (by omega))
        have d1 := ((bcell hb).1 g (j * 2 + 1) hg).trans (hcell.out (j * 2 + 1) (by omega))
        rw [show k + (j * 2 + 1) = k + j * 2 + 1 by omega] at d1
        have hgr : g < wr.heap.size := Nat.lt_of_lt_of_le hg hb.size
        have C0 := later_cell d0 hgr
        have HT1 := Aside0.mk (fun x : Later wr => HT.out (k + j * 2) x.W (by omega) (by omega))
        have HT2 := Aside0.mk (fun W => HT.out (k + j * 2 + 1) W (by omega) (by omega))
        rw [show ((k + j * 2 + 1 : Nat) : Int) = ((k + j * 2 : Nat) : Int) + 1 from rfl] at HT2
        have hD1 := Aside0.mk d1
        clear d0 d1
        go_upto_region 4 with fail
        refine wp_region_later (by kernel_rfl) (by kernel_rfl) ?_
        repeat (go_big_quiet_step ((go_at_call 52; exact later_call (HT1.out _))))
        refine wpQuiet_nil ?_
        rintro _ ⟨⟨W1, hb1⟩, rfl⟩
        have d1 := ((bcell hb1).1 g (j * 2 + 1) hgr).trans hD1.out
        have C1 := later_cell d1 (Nat.lt_of_lt_of_le hgr hb1.size)
        clear C0 d1
        go_upto_region 7 with fail
        refine wp_region_later (by kernel_rfl) (by kernel_rfl) ?_
        repeat (go_big_quiet_step ((go_at_call 52; exact later_call (HT2.out _))))
        refine wpQuiet_nil ?_
        rintro _ ⟨⟨W2, hb2⟩, rfl⟩
        clear C1
        go_wp2
        go_roundg (gk - 1)
        case measure => omega
        case rel => exact ⟨j + 1, by go_num, by go_num, by omega, below_then hb (below_then hb1 hb2)⟩
      · have hfin := Aside0.mk (show k + j * 2 = k + n * 2 by omega)
        go_wp2
        go_ret
        exact ⟨by rw [← hfin.out]; rfl, hb⟩
theorem markMark_calls (kd : Int) (nm : ByteArray) (A : Option Addr) (n c : Nat) (em : Bool) (tx : ByteArray) (cells : List Value) (k base : Nat) (w : World) (ho : w.ownsRow base 33 2 (.slice A n c) n cells) (hk : 1 ≤ k) (hk2 : k + n * 2 ≤ 1000000000) :
    Calls Tryz.prog 20 #[.agg #[.int .i64 kd, .string nm, .slice A n c, .bool em, .string tx], .int .i64 (k : Nat)] w fun e w' => e = .returned (.int .i64 ((k + n * 2 : Nat) : Int)) ∧ w'.ownsRow base 33 2 (.slice A n c) n (marks k n) ∧ w.grownBy w' (Value.slice A n c).ownBlock := by
  obtain ⟨W, hW, HB, hsz, HG⟩ := boxed w #[.int .i64 kd, .string nm, .slice A n c, .bool em, .string tx] 29
  have HW := Aside0.mk hW
  have HM := Aside0.mk (markRawS_calls A n c cells k base W (own_below ho HB) hk hk2)
  obtain ⟨a0, a1, a2, a3, a4, _⟩ := cells5 HG
  clear hW HG ho
  go_enter Tryz.func20, Tryz.ntmps20
  go_upto_region 1 with fail
  rw [← HW.out]
  go_wp2_with fail
  refine (HM.out).mono ?_
  rintro e w1 ⟨rfl, ho1, hg1⟩
  clear a0 a1 a2 a3 a4
  have ho1 := Aside0.mk ho1
  go_wp2
  go_ret
  exact ⟨rfl, ho1.out, ⟨hg1.os.trans HB.os, hg1.tape.trans HB.tape, hg1.output.trans HB.output, Nat.le_trans HB.size hg1.size, fun j hj hne => (hg1.block j (Nat.lt_of_lt_of_le hj HB.size) hne).trans (HB.block j hj)⟩⟩
theorem heldMark_calls (kd : Int) (nm : ByteArray) (A : Option Addr) (n c : Nat) (em : Bool) (tx : ByteArray) (k base : Nat) (w : World) (ho : w.ownsRow base 33 2 (.slice A n c) n (marks k n)) (hk : 1 ≤ k) (hk2 : k + n * 2 ≤ 1000000000) :
    Calls Tryz.prog 21 #[.agg #[.int .i64 kd, .string nm, .slice A n c, .bool em, .string tx], .int .i64 (k : Nat)] w fun e w' => e = .returned (.int .i64 ((k + n * 2 : Nat) : Int)) ∧ Below w.heap.size w w' := by
  obtain ⟨W, hW, HB, hsz, HG⟩ := boxed w #[.int .i64 kd, .string nm, .slice A n c, .bool em, .string tx] 29
  have HW := Aside0.mk hW
  have HM := Aside0.mk (heldRawS_calls A n c k base W (own_below ho HB) hk hk2)
  obtain ⟨a0, a1, a2, a3, a4, _⟩ := cells5 HG
  clear hW HG ho
  go_enter Tryz.func21, Tryz.ntmps21
  go_upto_region 1 with fail
  rw [← HW.out]
  go_wp2_with fail
  refine (HM.out).mono ?_
  rintro e w1 ⟨rfl, hb1⟩
  clear a0 a1 a2 a3 a4
  go_wp2
  go_ret
  exact ⟨rfl, below_then HB hb1⟩
end Go.Proofs.YtmfkdgdamepbcaaGreatDoor
end
section
/- The laws' comparison and marks of heads. -/
namespace Go.Proofs.YtmfkdgdamepbcaaGreatDoor
open Go.RowKit
set_option linter.unusedVariables false
set_option linter.unusedSimpArgs false
set_option maxRecDepth 20000
set_option maxHeartbeats 0
theorem eqDef_same (d : Df) (w : World) :
    Calls Tryz.prog 111 #[.agg #[.string d.el, .string d.at_, .bool d.id, .bool d.has, .string d.val], .agg #[.string d.el, .string d.at_, .bool d.id, .bool d.has, .string d.val]] w fun e w' => e = .returned (.bool true) ∧ Below w.heap.size w w' := by
  have h1 : (d.id != d.id) = false := by simp
  have h2 : (d.has != d.has) = false := by simp
  go_enter Tryz.func111, Tryz.ntmps111
  go_wp2
  go_ret
  exact ⟨rfl, below_alloc (below_alloc (Below.refl _ _) _) _⟩
theorem eqDefS_same {ok ok2 : Nat → Prop} (A B : Option Addr) (xs : List Df) (c c' : Nat) (w : World) (h1 : Row Kd.df w ok A xs) (h2 : Row Kd.df w ok2 B xs) :
    Calls Tryz.prog 75 #[.slice A xs.length c, .slice B xs.length c'] w fun e w' => e = .returned (.bool true) ∧ Below w.heap.size w w' := by
  have hm := h1.max
  have HE := Aside0.mk (fun d W => eqDef_same d W)
  go_enter Tryz.func75, Tryz.ntmps75
  go_wp2_with fail
  go_loopg [5] xs.length (fun k i wr => ∃ j : Nat, i = .int .i64 j ∧ j + k = xs.length ∧ Below w.heap.size w wr)
  case atStart => exact ⟨0, rfl, by omega, Below.refl _ _⟩
  case round =>
    obtain ⟨j, rfl, hk, hb⟩ := hrel
    by_cases hlt : j < xs.length
    · obtain ⟨b, o, rfl, hbl, d0, d1, d2, d3, d4⟩ := df_at (h1.below hb) j hlt
      obtain ⟨b', o', rfl, hbl', e0, e1, e2, e3, e4⟩ := df_at (h2.below hb) j hlt
      have D0 := later_cell d0 hbl
      have D1 := later_cell d1 hbl
      have D2 := later_cell d2 hbl
      have D3 := later_cell d3 hbl
      have D4 := later_cell d4 hbl
      have E0 := later_cell e0 hbl'
      have E1 := later_cell e1 hbl'
      have E2 := later_cell e2 hbl'
      have E3 := later_cell e3 hbl'
      have E4 := later_cell e4 hbl'
      clear d0 d1 d2 d3 d4 e0 e1 e2 e3 e4
      have hji : (j : Int) < (xs.length : Int) := by omega
      go_upto_region 6 with fail
      refine wp_region_later (by kernel_rfl) (by kernel_rfl) ?_
      repeat (go_big_quiet_step ((go_at_call 111; exact later_call (HE.out _ _))))
      refine wpQuiet_nil ?_
      rintro _ ⟨⟨W6, hb6⟩, rfl⟩
      clear D0 D1 D2 D3 D4 E0 E1 E2 E3 E4
      go_wp2
      go_roundg (gk - 1)
      case measure => omega
      case rel => exact ⟨j + 1, by go_num, by omega, below_then hb hb6⟩
    · obtain rfl : j = xs.length := by omega
      go_wp2
      go_ret
      exact ⟨rfl, hb⟩
theorem eqHead_same {ok ok2 ok3 ok4 : Nat → Prop} (n : ByteArray) (A B D E : Option Addr) (es : List Dcl) (ds : List Df) (c1 c2 c3 c4 : Nat) (w : World) (h1 : Row Kd.dcl w ok A es) (h2 : Row Kd.dcl w ok2 B es) (h3 : Row Kd.df w ok3 D ds) (h4 : Row Kd.df w ok4 E ds) :
    Calls Tryz.prog 29 #[.agg #[.string n, .slice A es.length c1, .slice D ds.length c3], .agg #[.string n, .slice B es.length c2, .slice E ds.length c4]] w fun e w' => e = .returned (.bool true) ∧ Below w.heap.size w w' := by
  obtain ⟨W, hW, HB, hsz, HG⟩ := boxed w #[.string n, .slice A es.length c1, .slice D ds.length c3] 48
  obtain ⟨W2, hW2, HB2, hsz2, HG2⟩ := boxed W #[.string n, .slice B es.length c2, .slice E ds.length c4] 48
  have hs1 : W.heap.size = w.heap.size + 1 := by rw [hW]; exact Array.size_push _
  rw [hs1] at HG2
  have HB12 := below_then HB HB2
  have HK1 := Aside0.mk (fun W1 (hb : Below W2.heap.size W2 W1) => cells3 ((hb.block w.heap.size (by omega)).trans ((HB2.block _ hsz).trans HG)))
  have HK2 := Aside0.mk (fun W1 (hb : Below W2.heap.size W2 W1) => cells3 ((hb.block (w.heap.size + 1) (by omega)).trans HG2))
  have HE := Aside0.mk (eqEntS_same A B es c1 c2 W2 (h1.below HB12) (h2.below HB12))
  have HD := Aside0.mk (fun W1 (hb : Below W2.heap.size W2 W1) => eqDefS_same D E ds c3 c4 W1 (h3.below (below_then HB12 hb)) (h4.below (below_then HB12 hb)))
  have HW := Aside0.mk (hW2.trans (by rw [hW]))
  clear hW hW2 HG HG2 h1 h2 h3 h4
  go_enter Tryz.func29, Tryz.ntmps29
  go_upto_region 1 with fail
  rw [← HW.out]
  obtain ⟨a0, a1, a2, _⟩ := HK1.out _ (Below.refl _ _)
  obtain ⟨b0, b1, b2, _⟩ := HK2.out _ (Below.refl _ _)
  go_wp2_with fail
  refine (HE.out).mono ?_
  rintro e w1 ⟨rfl, hb1⟩
  clear a0 a1 a2 b0 b1 b2
  obtain ⟨a0, a1, a2, _⟩ := HK1.out _ hb1
  obtain ⟨b0, b1, b2, _⟩ := HK2.out _ hb1
  go_wp2_with fail
  refine (HD.out _ hb1).mono ?_
  rintro e w2 ⟨rfl, hb2⟩
  clear a0 a1 a2 b0 b1 b2
  go_wp2
  go_ret
  exact ⟨rfl, below_then HB12 (below_then hb1 hb2)⟩
end Go.Proofs.YtmfkdgdamepbcaaGreatDoor
end
section
/- The laws' marks of heads. -/
namespace Go.Proofs.YtmfkdgdamepbcaaGreatDoor
open Go.RowKit
set_option linter.unusedVariables false
set_option linter.unusedSimpArgs false
set_option maxRecDepth 20000
set_option maxHeartbeats 0
/-- What cell i of marked Defs holds. -/
def dmk (k i : Nat) : Value := if i % 5 = 2 ∨ i % 5 = 3 then .bool (decide ((k + i) % 3 = 0)) else .string (markB (k + i))
def dmarks (k n : Nat) : List Value := (List.range (n * 5)).map (dmk k)
theorem dmarks_get {k n i : Nat} (h : i < n * 5) : (dmarks k n)[i]? = some (dmk k i) := by simp [dmarks, h]
theorem dmarks_length (k n : Nat) : (dmarks k n).length = n * 5 := by simp [dmarks]
theorem dmk_s {k j o : Nat} (ho : o = 0 ∨ o = 1 ∨ o = 4) : dmk k (j * 5 + o) = .string (markB (k + j * 5 + o)) := by
  rw [dmk, if_neg (by omega), Nat.add_assoc]
theorem dmk_b {k j o : Nat} (ho : o = 2 ∨ o = 3) : dmk k (j * 5 + o) = .bool (decide ((k + j * 5 + o) % 3 = 0)) := by
  rw [dmk, if_pos (by omega), Nat.add_assoc]
theorem five_set {cs : List Value} {k j : Nat} {n : Nat} {v0 v1 v2 v3 v4 : Value} (hl : cs.length = n * 5) (hj : j < n) (hM : ∀ i, i < j * 5 → cs[i]? = some (dmk k i)) (h0 : v0 = dmk k (j * 5 + 0)) (h1 : v1 = dmk k (j * 5 + 1)) (h2 : v2 = dmk k (j * 5 + 2)) (h3 : v3 = dmk k (j * 5 + 3)) (h4 : v4 = dmk k (j * 5 + 4)) :
    ∀ i, i < (j + 1) * 5 → (((((cs.set (j * 5) v0).set (j * 5 + 1) v1).set (j * 5 + 2) v2).set (j * 5 + 3) v3).set (j * 5 + 4) v4)[i]? = some (dmk k i) := by
  intro i hi
  subst h0 h1 h2 h3 h4
  by_cases e4 : i = j * 5 + 4
  · subst e4; rw [List.getElem?_set_self (by simp only [List.length_set]; omega)]
  rw [List.getElem?_set_ne (by omega)]
  by_cases e3 : i = j * 5 + 3
  · subst e3; rw [List.getElem?_set_self (by simp only [List.length_set]; omega)]
  rw [List.getElem?_set_ne (by omega)]
  by_cases e2 : i = j * 5 + 2
  · subst e2; rw [List.getElem?_set_self (by simp only [List.length_set]; omega)]
  rw [List.getElem?_set_ne (by omega)]
  by_cases e1 : i = j * 5 + 1
  · subst e1; rw [List.getElem?_set_self (by simp only [List.length_set]; omega)]
  rw [List.getElem?_set_ne (by omega)]
  by_cases e0 : i = j * 5
  · subst e0; rw [List.getElem?_set_self (by omega)]; rfl
  rw [List.getElem?_set_ne (by omega)]
  exact hM i (by omega)
/-- Only two blocks and new ones change. -/
structure Two (p q : Option Nat) (w w' : World) : Prop where
  os : w'.os = w.os
  tape : w'.tape = w.tape
  output : w'.output = w.output
  size : w.heap.size ≤ w'.heap.size
  block : ∀ k, k < w.heap.size → ¬ p = some k → ¬ q = some k → w'.heap[k]? = w.heap[k]?
theorem Two.of {p q : Option Nat} {w w1 w2 w3 : World} (hb : Below w.heap.size w w1) (h1 : w1.grownBy w2 p) (h2 : w2.grownBy w3 q) : Two p q w w3 :=
  ⟨h2.os.trans (h1.os.trans hb.os), h2.tape.trans (h1.tape.trans hb.tape), h2.output.trans (h1.output.trans hb.output), Nat.le_trans hb.size (Nat.le_trans h1.size h2.size), fun k hk hp hq =>
    (h2.block k (Nat.lt_of_lt_of_le hk (Nat.le_trans hb.size h1.size)) (fun e => hq e.symm)).trans ((h1.block k (Nat.lt_of_lt_of_le hk hb.size) (fun e => hp e.symm)).trans (hb.block k hk))⟩
theorem own_old {size n base : Nat} {e : TypeId} {v : Value} {cells : List Value} {w w1 : World} (h : w.ownsRow base e size v n cells) (hs : ∀ k, v.ownBlock = some k → k < w.heap.size → w1.heap[k]? = w.heap[k]?) : w1.ownsRow base e size v n cells := by
  obtain ⟨hcl, hh⟩ := h
  refine ⟨hcl, ?_⟩
  rcases hh with hh | ⟨b, cap, cur, rfl, hb, hh, hl⟩
  · exact .inl hh
  · exact .inr ⟨b, cap, cur, rfl, hb, (hs b rfl (Array.getElem?_eq_some_iff.1 hh).1).trans hh, hl⟩
theorem markDefS_calls (A : Option Addr) (n c : Nat) (cells : List Value) (k base : Nat) (w : World) (ho : w.ownsRow base 54 5 (.slice A n c) n cells) (hk : 1 ≤ k) (hk2 : k + n * 5 ≤ 1000000000) :
    Calls Tryz.prog 76 #[.slice A n c, .int .i64 (k : Nat)] w fun e w' => e = .returned (.int .i64 ((k + n * 5 : Nat) : Int)) ∧ w'.ownsRow base 54 5 (.slice A n c) n (dmarks k n) ∧ w.grownBy w' (Value.slice A n c).ownBlock := by
  have hn9 : n ≤ 1000000000 := by omega
  cases A with
  | none =>
    have hn : n = 0 := by
      rcases ho.2 with ⟨_, h⟩ | ⟨g, cap, cur, h, _⟩
      · exact h
      · cases h
    subst hn
    have ho2 := Aside0.mk (show w.ownsRow base 54 5 (.slice none 0 c) 0 (dmarks k 0) by
      obtain ⟨hl, hh⟩ := ho
      refine ⟨rfl, ?_⟩
      rcases hh with ⟨h, _⟩ | ⟨g, cap, cur, h, _⟩
      · exact .inl ⟨h, rfl⟩
      · cases h)
    clear ho
    go_enter Tryz.func76, Tryz.ntmps76
    go_wp2_with fail
    go_loopg [1, 5] 0 (fun gd u i wr => u = .int .i64 (k : Nat) ∧ i = .int .i64 0 ∧ wr = w)
    case atStart => exact ⟨rfl, rfl, rfl⟩
    case round =>
      obtain ⟨rfl, rfl, rfl⟩ := hrel
      go_wp2
      go_ret
      exact ⟨rfl, ho2.out, below_by (Below.refl _ _)⟩
  | some ad =>
    obtain ⟨g, o, sp⟩ := ad
    have hg : g < w.heap.size ∧ (⟨g, o, sp⟩ : Addr) = ⟨g, 0, none⟩ := by
      rcases ho.2 with ⟨h, _⟩ | ⟨g', cap, cur, h, _, hh, _⟩
      · cases h
      · injection h with h _ _
        injection h with h
        injection h with h1 h2 h3
        subst h1 h2 h3
        exact ⟨(Array.getElem?_eq_some_iff.1 hh).1, rfl⟩
    obtain ⟨hg, ha⟩ := hg
    rw [ha] at ho ⊢
    clear ha
    have ho0 := Aside0.mk ho
    have HT := Aside0.mk (fun (j : Nat) W (h : 1 ≤ j) (h2 : j ≤ 1099511627776) => markText_calls j W h h2)
    clear ho
    go_enter Tryz.func76, Tryz.ntmps76
    go_wp2_with fail
    go_loopg [1, 5] n (fun gd u i wr => ∃ (j : Nat) (cs : List Value), u = .int .i64 ((k + j * 5 : Nat) : Int) ∧ i = .int .i64 (j : Nat) ∧ j + gd = n ∧ Aside (wr.ownsRow base 54 5 (.slice (some ⟨g, 0, none⟩) n c) n cs) ∧ Aside (∀ i, i < j * 5 → cs[i]? = some (dmk k i)) ∧ Aside (Moved g w wr))
    case atStart => exact ⟨0, _, rfl, rfl, by omega, ho0.out, (fun i hi => by omega), Moved.refl _ _⟩
    case round =>
      obtain ⟨j, cs, rfl, rfl, hj, hO, hM, hm⟩ := hrel
      by_cases hlt : j < n
      · have hji : (j : Int) < (n : Int) := by omega
        have hcl : cs.length = n * 5 := hO.out.1
        have hM := Aside0.mk hM.out
        obtain ⟨K, hK⟩ : ∃ K, K = k + j * 5 := ⟨_, rfl⟩
        rw [← hK]
        have hKb : 1 ≤ K ∧ K + 5 ≤ 1000000000 := by omega
        have hK1 : (K : Int) ≤ 1000000000 := by omega
        have hK0 : (0 : Int) ≤ (K : Int) + 1 + 1 := by omega
        have hK00 : (0 : Int) ≤ (K : Int) + 1 + 1 + 1 := by omega
        obtain ⟨b2, hb2⟩ : ∃ b, b = decide ((K + 2) % 3 = 0) := ⟨_, rfl⟩
        obtain ⟨b3, hb3⟩ : ∃ b, b = decide ((K + 3) % 3 = 0) := ⟨_, rfl⟩
        have e2 : ((((K : Int) + 1 + 1) % 3) == 0) = b2 := by rw [hb2, Bool.eq_iff_iff]; simp only [beq_iff_eq, decide_eq_true_eq]; omega
        have e3 : ((((K : Int) + 1 + 1 + 1) % 3) == 0) = b3 := by rw [hb3, Bool.eq_iff_iff]; simp only [beq_iff_eq, decide_eq_true_eq]; omega
        have e2t : ((((K : Int) + 1 + 1).tmod 3) == 0) = b2 := by rw [Int.tmod_eq_emod_of_nonneg hK0]; exact e2
        have e3t : ((((K : Int) + 1 + 1 + 1).tmod 3) == 0) = b3 := by rw [Int.tmod_eq_emod_of_nonneg hK00]; exact e3
        replace hb2 := Aside0.mk hb2
        replace hb3 := Aside0.mk hb3
        have HT0 := Aside0.mk (fun W => HT.out K W hKb.1 (by omega))
        have HT1 := Aside0.mk (fun W => HT.out (K + 1) W (by omega) (by omega))
        have HT4 := Aside0.mk (fun W => HT.out (K + 1 + 1 + 1 + 1) W (by omega) (by omega))
        rw [show ((K + 1 : Nat) : Int) = (K : Int) + 1 from rfl] at HT1
        rw [show ((K + 1 + 1 + 1 + 1 : Nat) : Int) = (K : Int) + 1 + 1 + 1 + 1 from rfl] at HT4
        replace hK := Aside0.mk hK
        go_wp2_with fail
        refine (HT0.out _).mono ?_
        rintro e w1 ⟨rfl, hb1⟩
        have hO1 := own_below hO.out hb1
        obtain ⟨⟨u0, hu0⟩, hf0⟩ := fill_cellN hO1 (i := j * 5) (by omega)
        have hO2 := Aside0.mk (hO1.stored (j * 5) (.string (markB K))).1
        have hm2 := Aside0.mk ((hm.out.then hb1).set (o := j * 5) (u := .string (markB K)))
        clear hO1
        go_wp2_with fail
        refine (HT1.out _).mono ?_
        rintro e w3 ⟨rfl, hb3'⟩
        clear hu0 hf0
        have hO3 := own_below hO2.out hb3'
        obtain ⟨⟨u1, hu1⟩, hf1⟩ := fill_cellN hO3 (i := j * 5 + 1) (by omega)
        have hO4 := (hO3.stored (j * 5 + 1) (.string (markB (K + 1)))).1
        have hm4 := (hm2.out.then hb3').set (o := j * 5 + 1) (u := .string (markB (K + 1)))
        clear hO3 hb3'
        go_upto_region 8 with fail
        obtain ⟨X4, hX4⟩ : ∃ X, X = w3.setCell ⟨g, j * 5 + 1, none⟩ (.string (markB (K + 1))) := ⟨_, rfl⟩
        rw [← hX4] at hO4 hm4 ⊢
        clear hX4 hu1 hf1
        obtain ⟨⟨u2, hu2⟩, hf2⟩ := fill_cellN hO4 (i := j * 5 + 2) (by omega)
        have hO5 := (hO4.stored (j * 5 + 2) (.bool b2)).1
        have hm5 := hm4.set (o := j * 5 + 2) (u := .bool b2)
        clear hO4 hm4
        go_upto_region 10 with fail
        obtain ⟨X5, hX5⟩ : ∃ X, X = X4.setCell ⟨g, j * 5 + 2, none⟩ (.bool b2) := ⟨_, rfl⟩
        rw [← hX5] at hO5 hm5 ⊢
        clear hX5 hu2 hf2
        obtain ⟨⟨u3, hu3⟩, hf3⟩ := fill_cellN hO5 (i := j * 5 + 3) (by omega)
        have hO6 := (hO5.stored (j * 5 + 3) (.bool b3)).1
        have hm6 := hm5.set (o := j * 5 + 3) (u := .bool b3)
        clear hO5 hm5
        go_upto_region 12 with fail
        obtain ⟨X6, hX6⟩ : ∃ X, X = X5.setCell ⟨g, j * 5 + 3, none⟩ (.bool b3) := ⟨_, rfl⟩
        rw [← hX6] at hO6 hm6 ⊢
        clear hX6 hu3 hf3
        replace hO6 := Aside0.mk hO6
        replace hm6 := Aside0.mk hm6
        go_wp2_with fail
        refine (HT4.out _).mono ?_
        rintro e w7 ⟨rfl, hb7⟩
        have hO7 := own_below hO6.out hb7
        obtain ⟨⟨u4, hu4⟩, hf4⟩ := fill_cellN hO7 (i := j * 5 + 4) (by omega)
        have hO8 := Aside0.mk (hO7.stored (j * 5 + 4) (.string (markB (K + 1 + 1 + 1 + 1)))).1
        have hm8 := Aside0.mk ((hm6.out.then hb7).set (o := j * 5 + 4) (u := .string (markB (K + 1 + 1 + 1 + 1))))
        have hM8 := Aside0.mk (five_set (k := k) (v0 := .string (markB K)) (v1 := .string (markB (K + 1))) (v2 := .bool b2) (v3 := .bool b3) (v4 := .string (markB (K + 1 + 1 + 1 + 1))) hcl hlt hM.out
          (by rw [dmk_s (.inl rfl), hK.out]; rfl) (by rw [dmk_s (.inr (.inl rfl)), hK.out]) (by rw [dmk_b (.inl rfl), hb2.out, hK.out]) (by rw [dmk_b (.inr rfl), hb3.out, hK.out]) (by rw [dmk_s (.inr (.inr rfl)), hK.out]))
        have hKj : ((k + (j + 1) * 5 : Nat) : Int) = (K : Int) + 1 + 1 + 1 + 1 + 1 := by have := hK.out; omega
        have hKj := Aside0.mk hKj
        clear hO7 hcl
        go_wp2
        go_roundg (gk - 1)
        case measure => omega
        case rel => exact ⟨j + 1, _, by rw [hKj.out], by go_num, by omega, hO8.out, hM8.out, hm8.out⟩
      · have hfin := Aside0.mk (show k + j * 5 = k + n * 5 by omega)
        have hO2 := Aside0.mk (show wr.ownsRow base 54 5 (.slice (some ⟨g, 0, none⟩) n c) n (dmarks k n) by
          have e : cs = dmarks k n := by
            apply List.ext_getElem?
            intro i
            by_cases hi : i < n * 5
            · rw [hM.out i (by omega), dmarks_get hi]
            · rw [List.getElem?_eq_none (by rw [hO.out.1]; omega), List.getElem?_eq_none (by rw [dmarks_length]; omega)]
          rw [← e]; exact hO.out)
        go_wp2
        go_ret
        exact ⟨by rw [← hfin.out]; rfl, hO2.out, moved_by hm.out⟩
theorem heldEntS_calls (A : Option Addr) (n c : Nat) (k base : Nat) (w : World) (ho : w.ownsRow base 57 2 (.slice A n c) n (marks k n)) (hk : 1 ≤ k) (hk2 : k + n * 2 ≤ 1000000000) :
    Calls Tryz.prog 77 #[.slice A n c, .int .i64 (k : Nat)] w fun e w' => e = .returned (.int .i64 ((k + n * 2 : Nat) : Int)) ∧ Below w.heap.size w w' := by
  have hn9 : n ≤ 1000000000 := by omega
  cases A with
  | none =>
    have hn : n = 0 := by
      rcases ho.2 with ⟨_, h⟩ | ⟨g, cap, cur, h, _⟩
      · exact h
      · cases h
    subst hn
    clear ho
    go_enter Tryz.func77, Tryz.ntmps77
    go_wp2_with fail
    go_loopg [1, 5] 0 (fun gd u i wr => u = .int .i64 (k : Nat) ∧ i = .int .i64 0 ∧ wr = w)
    case atStart => exact ⟨rfl, rfl, rfl⟩
    case round =>
      obtain ⟨rfl, rfl, rfl⟩ := hrel
      go_wp2
      go_ret
      exact ⟨rfl, Below.refl _ _⟩
  | some ad =>
    obtain ⟨g, o, sp⟩ := ad
    have hg : g < w.heap.size ∧ (⟨g, o, sp⟩ : Addr) = ⟨g, 0, none⟩ := by
      rcases ho.2 with ⟨h, _⟩ | ⟨g', cap, cur, h, _, hh, _⟩
      · cases h
      · injection h with h _ _
        injection h with h
        injection h with h1 h2 h3
        subst h1 h2 h3
        exact ⟨(Array.getElem?_eq_some_iff.1 hh).1, rfl⟩
    obtain ⟨hg, ha⟩ := hg
    rw [ha] at ho ⊢
    clear ha
    have hcell := Aside0.mk (fun i (hi : i < n * 2) => (ho.cellAt i hi).trans (marks_get hi))
    have HT := Aside0.mk (fun (j : Nat) W (h : 1 ≤ j) (h2 : j ≤ 1099511627776) => markText_calls j W h h2)
    clear ho
    go_enter Tryz.func77, Tryz.ntmps77
    go_wp2_with fail
    go_loopg [1, 5] n (fun gd u i wr => ∃ (j : Nat), u = .int .i64 ((k + j * 2 : Nat) : Int) ∧ i = .int .i64 (j : Nat) ∧ j + gd = n ∧ Below w.heap.size w wr)
    case atStart => exact ⟨0, rfl, rfl, by omega, Below.refl _ _⟩
    case round =>
      obtain ⟨j, rfl, rfl, hj, hb⟩ := hrel
      by_cases hlt : j < n
      · have i1 : ((k + j * 2 : Nat) : Int) = (k : Int) + (j : Int) * 2 := by omega
        have d0 := ((bcell hb).1 g (j * 2) hg).trans (hcell.out (j * 2) (by omega))
        have d1 := ((bcell hb).1 g (j * 2 + 1) hg).trans (hcell.out (j * 2 + 1) (by omega))
        rw [show k + (j * 2 + 1) = k + j * 2 + 1 by omega] at d1
        have hgr : g < wr.heap.size := Nat.lt_of_lt_of_le hg hb.size
        have C0 := later_cell d0 hgr
        have HT1 := Aside0.mk (fun x : Later wr => HT.out (k + j * 2) x.W (by omega) (by omega))
        have HT2 := Aside0.mk (fun W => HT.out (k + j * 2 + 1) W (by omega) (by omega))
        rw [show ((k + j * 2 + 1 : Nat) : Int) = ((k + j * 2 : Nat) : Int) + 1 from rfl] at HT2
        have hD1 := Aside0.mk d1
        clear d0 d1
        go_upto_region 4 with fail
        refine wp_region_later (by kernel_rfl) (by kernel_rfl) ?_
        repeat (go_big_quiet_step ((go_at_call 52; exact later_call (HT1.out _))))
        refine wpQuiet_nil ?_
        rintro _ ⟨⟨W1, hb1⟩, rfl⟩
        have d1 := ((bcell hb1).1 g (j * 2 + 1) hgr).trans hD1.out
        have C1 := later_cell d1 (Nat.lt_of_lt_of_le hgr hb1.size)
        clear C0 d1
        go_upto_region 7 with fail
        refine wp_region_later (by kernel_rfl) (by kernel_rfl) ?_
        repeat (go_big_quiet_step ((go_at_call 52; exact later_call (HT2.out _))))
        refine wpQuiet_nil ?_
        rintro _ ⟨⟨W2, hb2⟩, rfl⟩
        clear C1
        go_wp2
        go_roundg (gk - 1)
        case measure => omega
        case rel => exact ⟨j + 1, by go_num, by go_num, by omega, below_then hb (below_then hb1 hb2)⟩
      · have hfin := Aside0.mk (show k + j * 2 = k + n * 2 by omega)
        go_wp2
        go_ret
        exact ⟨by rw [← hfin.out]; rfl, hb⟩
theorem heldDefS_calls (A : Option Addr) (n c : Nat) (k base : Nat) (w : World) (ho : w.ownsRow base 54 5 (.slice A n c) n (dmarks k n)) (hk : 1 ≤ k) (hk2 : k + n * 5 ≤ 1000000000) :
    Calls Tryz.prog 78 #[.slice A n c, .int .i64 (k : Nat)] w fun e w' => e = .returned (.int .i64 ((k + n * 5 : Nat) : Int)) ∧ Below w.heap.size w w' := by
  have hn9 : n ≤ 1000000000 := by omega
  cases A with
  | none =>
    have hn : n = 0 := by
      rcases ho.2 with ⟨_, h⟩ | ⟨g, cap, cur, h, _⟩
      · exact h
      · cases h
    subst hn
    clear ho
    go_enter Tryz.func78, Tryz.ntmps78
    go_wp2_with fail
    go_loopg [1, 5] 0 (fun gd u i wr => u = .int .i64 (k : Nat) ∧ i = .int .i64 0 ∧ wr = w)
    case atStart => exact ⟨rfl, rfl, rfl⟩
    case round =>
      obtain ⟨rfl, rfl, rfl⟩ := hrel
      go_wp2
      go_ret
      exact ⟨rfl, Below.refl _ _⟩
  | some ad =>
    obtain ⟨g, o, sp⟩ := ad
    have hg : g < w.heap.size ∧ (⟨g, o, sp⟩ : Addr) = ⟨g, 0, none⟩ := by
      rcases ho.2 with ⟨h, _⟩ | ⟨g', cap, cur, h, _, hh, _⟩
      · cases h
      · injection h with h _ _
        injection h with h
        injection h with h1 h2 h3
        subst h1 h2 h3
        exact ⟨(Array.getElem?_eq_some_iff.1 hh).1, rfl⟩
    obtain ⟨hg, ha⟩ := hg
    rw [ha] at ho ⊢
    clear ha
    have hcell := Aside0.mk (fun i (hi : i < n * 5) => (ho.cellAt i hi).trans (dmarks_get hi))
    have HT := Aside0.mk (fun (j : Nat) W (h : 1 ≤ j) (h2 : j ≤ 1099511627776) => markText_calls j W h h2)
    clear ho
    go_enter Tryz.func78, Tryz.ntmps78
    go_wp2_with fail
    go_loopg [1, 5] n (fun gd u i wr => ∃ (j : Nat), u = .int .i64 ((k + j * 5 : Nat) : Int) ∧ i = .int .i64 (j : Nat) ∧ j + gd = n ∧ Below w.heap.size w wr)
    case atStart => exact ⟨0, rfl, rfl, by omega, Below.refl _ _⟩
    case round =>
      obtain ⟨j, rfl, rfl, hj, hb⟩ := hrel
      by_cases hlt : j < n
      · have hji : (j : Int) < (n : Int) := by omega
        obtain ⟨K, hK⟩ : ∃ K, K = k + j * 5 := ⟨_, rfl⟩
        rw [← hK]
        have hKb : 1 ≤ K ∧ K + 5 ≤ 1000000000 := by omega
        have hK1 : (K : Int) ≤ 1000000000 := by omega
        have hK0 : (0 : Int) ≤ (K : Int) + 1 + 1 := by omega
        have hK00 : (0 : Int) ≤ (K : Int) + 1 + 1 + 1 := by omega
        obtain ⟨b2, hb2⟩ : ∃ b, b = decide ((K + 2) % 3 = 0) := ⟨_, rfl⟩
        obtain ⟨b3, hb3⟩ : ∃ b, b = decide ((K + 3) % 3 = 0) := ⟨_, rfl⟩
        have e2 : ((((K : Int) + 1 + 1) % 3) == 0) = b2 := by rw [hb2, Bool.eq_iff_iff]; simp only [beq_iff_eq, decide_eq_true_eq]; omega
        have e3 : ((((K : Int) + 1 + 1 + 1) % 3) == 0) = b3 := by rw [hb3, Bool.eq_iff_iff]; simp only [beq_iff_eq, decide_eq_true_eq]; omega
        have e2t : ((((K : Int) + 1 + 1).tmod 3) == 0) = b2 := by rw [Int.tmod_eq_emod_of_nonneg hK0]; exact e2
        have e3t : ((((K : Int) + 1 + 1 + 1).tmod 3) == 0) = b3 := by rw [Int.tmod_eq_emod_of_nonneg hK00]; exact e3
        replace hb2 := Aside0.mk hb2
        replace hb3 := Aside0.mk hb3
        have HT0 := Aside0.mk (fun W => HT.out K W hKb.1 (by omega))
        have HT1 := Aside0.mk (fun W => HT.out (K + 1) W (by omega) (by omega))
        have HT4 := Aside0.mk (fun W => HT.out (K + 1 + 1 + 1 + 1) W (by omega) (by omega))
        rw [show ((K + 1 : Nat) : Int) = (K : Int) + 1 from rfl] at HT1
        rw [show ((K + 1 + 1 + 1 + 1 : Nat) : Int) = (K : Int) + 1 + 1 + 1 + 1 from rfl] at HT4
        have HD0 := Aside0.mk (fun W (hb : Below w.heap.size w W) => ((bcell hb).1 g (j * 5) hg).trans ((hcell.out (j * 5 + 0) (by omega)).trans (by rw [dmk_s (.inl rfl), ← hK]; rfl : some (dmk k (j * 5 + 0)) = some (.string (markB K)))))
        have HD1 := Aside0.mk (fun W (hb : Below w.heap.size w W) => ((bcell hb).1 g (j * 5 + 1) hg).trans ((hcell.out (j * 5 + 1) (by omega)).trans (by rw [dmk_s (.inr (.inl rfl)), ← hK] : some (dmk k (j * 5 + 1)) = some (.string (markB (K + 1))))))
        have HD2 := Aside0.mk (fun W (hb : Below w.heap.size w W) => ((bcell hb).1 g (j * 5 + 2) hg).trans ((hcell.out (j * 5 + 2) (by omega)).trans (by rw [dmk_b (.inl rfl), ← hK, hb2.out] : some (dmk k (j * 5 + 2)) = some (.bool b2))))
        have HD3 := Aside0.mk (fun W (hb : Below w.heap.size w W) => ((bcell hb).1 g (j * 5 + 3) hg).trans ((hcell.out (j * 5 + 3) (by omega)).trans (by rw [dmk_b (.inr rfl), ← hK, hb3.out] : some (dmk k (j * 5 + 3)) = some (.bool b3))))
        have HD4 := Aside0.mk (fun W (hb : Below w.heap.size w W) => ((bcell hb).1 g (j * 5 + 4) hg).trans ((hcell.out (j * 5 + 4) (by omega)).trans (by rw [dmk_s (.inr (.inr rfl)), ← hK] : some (dmk k (j * 5 + 4)) = some (.string (markB (K + 1 + 1 + 1 + 1))))))
        have n2 : (b2 != b2) = false := by simp
        have n3 : (b3 != b3) = false := by simp
        have hgr : g < wr.heap.size := Nat.lt_of_lt_of_le hg hb.size
        have C0 := later_cell (HD0.out _ hb) hgr
        replace hK := Aside0.mk hK
        go_upto_region 4 with fail
        refine wp_region_later (by kernel_rfl) (by kernel_rfl) ?_
        repeat (go_big_quiet_step ((go_at_call 52; exact later_call (HT0.out _))))
        refine wpQuiet_nil ?_
        rintro _ ⟨⟨W1, hb1⟩, rfl⟩
        have hb := below_then hb hb1
        have hgr := Nat.lt_of_lt_of_le hgr hb1.size
        clear C0 hb1
        have C1 := later_cell (HD1.out _ hb) hgr
        go_upto_region 7 with fail
        refine wp_region_later (by kernel_rfl) (by kernel_rfl) ?_
        repeat (go_big_quiet_step ((go_at_call 52; exact later_call (HT1.out _))))
        refine wpQuiet_nil ?_
        rintro _ ⟨⟨W2, hb2'⟩, rfl⟩
        have hb := below_then hb hb2'
        have hgr := Nat.lt_of_lt_of_le hgr hb2'.size
        clear C1 hb2'
        have d2 := HD2.out _ hb
        have d3 := HD3.out _ hb
        have C4 := later_cell (HD4.out _ hb) hgr
        go_upto_region 16 with fail
        refine wp_region_later (by kernel_rfl) (by kernel_rfl) ?_
        repeat (go_big_quiet_step ((go_at_call 52; exact later_call (HT4.out _))))
        refine wpQuiet_nil ?_
        rintro _ ⟨⟨W3, hb3'⟩, rfl⟩
        have hb := below_then hb hb3'
        clear C4 hb3' d2 d3
        have hKj : ((k + (j + 1) * 5 : Nat) : Int) = (K : Int) + 1 + 1 + 1 + 1 + 1 := by have := hK.out; omega
        have hKj := Aside0.mk hKj
        go_wp2
        go_roundg (gk - 1)
        case measure => omega
        case rel => exact ⟨j + 1, by rw [hKj.out], by go_num, by omega, hb⟩
      · have hfin := Aside0.mk (show k + j * 5 = k + n * 5 by omega)
        go_wp2
        go_ret
        exact ⟨by rw [← hfin.out]; rfl, hb⟩
theorem markHead_calls (nm : ByteArray) (A D : Option Addr) (ne nd c d : Nat) (E F : List Value) (base : Nat) (w : World) (hE : w.ownsRow base 57 2 (.slice A ne c) ne E) (hF : w.ownsRow base 54 5 (.slice D nd d) nd F) (hne : ∀ k, (Value.slice A ne c).ownBlock = some k → ¬ (Value.slice D nd d).ownBlock = some k) (h1 : ne ≤ 4) (h2 : nd ≤ 6) :
    Calls Tryz.prog 30 #[.agg #[.string nm, .slice A ne c, .slice D nd d], .int .i64 1] w fun e w' => e = .returned (.int .i64 ((1 + ne * 2 + nd * 5 : Nat) : Int)) ∧ w'.ownsRow base 57 2 (.slice A ne c) ne (marks 1 ne) ∧ w'.ownsRow base 54 5 (.slice D nd d) nd (dmarks (1 + ne * 2) nd) ∧ Two (Value.slice A ne c).ownBlock (Value.slice D nd d).ownBlock w w' := by
  obtain ⟨W, hW, HB, hsz, HG⟩ := boxed w #[.string nm, .slice A ne c, .slice D nd d] 48
  have HW := Aside0.mk hW
  have hlE := hE.lt
  have hlF := hF.lt
  have HM := Aside0.mk (markEntS_calls A ne c E 1 base W (own_below hE HB) (by omega) (by omega))
  have HD := Aside0.mk (fun W1 (h : W1.ownsRow base 54 5 (.slice D nd d) nd F) => markDefS_calls D nd d F (1 + ne * 2) base W1 h (by omega) (by omega))
  rw [show ((1 : Nat) : Int) = 1 from rfl] at HM
  have hF1 := Aside0.mk (own_below hF HB)
  obtain ⟨a0, a1, a2, _⟩ := cells3 HG
  have HG := Aside0.mk HG
  have HB := Aside0.mk HB
  have hbE := Aside0.mk (show ¬ (Value.slice A ne c).ownBlock = some w.heap.size from fun e => by have := (hlE _ e).2; omega)
  have HNE := Aside0.mk hne
  clear hW hE hF hlE hlF hne
  go_enter Tryz.func30, Tryz.ntmps30
  go_upto_region 1 with fail
  rw [← HW.out]
  go_wp2_with fail
  refine (HM.out).mono ?_
  rintro e w1 ⟨rfl, hE1, hg1⟩
  clear a0 a1 a2
  have hF2 := hown_grown hF1.out hg1 (fun k hk e => HNE.out k e hk)
  have hG1 := (hg1.block w.heap.size hsz (fun e => hbE.out e.symm)).trans HG.out
  obtain ⟨a0, a1, a2, _⟩ := cells3 hG1
  have hE1 := Aside0.mk hE1
  have hg1 := Aside0.mk hg1
  clear hG1
  go_wp2_with fail
  refine (HD.out _ hF2).mono ?_
  rintro e w2 ⟨rfl, hF3, hg2⟩
  have hE3 := Aside0.mk (hown_grown hE1.out hg2 (fun k hk e => HNE.out k hk e))
  have hF3 := Aside0.mk hF3
  have hT := Aside0.mk (Two.of HB.out hg1.out hg2)
  clear a0 a1 a2 hg2
  go_wp2
  go_ret
  exact ⟨rfl, hE3.out, hF3.out, hT.out⟩
theorem heldHead_calls (nm : ByteArray) (A D : Option Addr) (ne nd c d : Nat) (base : Nat) (w : World) (hE : w.ownsRow base 57 2 (.slice A ne c) ne (marks 1 ne)) (hF : w.ownsRow base 54 5 (.slice D nd d) nd (dmarks (1 + ne * 2) nd)) (h1 : ne ≤ 4) (h2 : nd ≤ 6) :
    Calls Tryz.prog 31 #[.agg #[.string nm, .slice A ne c, .slice D nd d], .int .i64 1] w fun e w' => e = .returned (.int .i64 ((1 + ne * 2 + nd * 5 : Nat) : Int)) ∧ Below w.heap.size w w' := by
  obtain ⟨W, hW, HB, hsz, HG⟩ := boxed w #[.string nm, .slice A ne c, .slice D nd d] 48
  have HW := Aside0.mk hW
  have HM := Aside0.mk (heldEntS_calls A ne c 1 base W (own_below hE HB) (by omega) (by omega))
  have HD := Aside0.mk (fun W1 (hb : Below W.heap.size W W1) => heldDefS_calls D nd d (1 + ne * 2) base W1 (own_below (own_below hF HB) hb) (by omega) (by omega))
  rw [show ((1 : Nat) : Int) = 1 from rfl] at HM
  obtain ⟨a0, a1, a2, _⟩ := cells3 HG
  have HK := Aside0.mk (fun W1 (hb : Below W.heap.size W W1) => cells3 ((hb.block _ hsz).trans HG))
  have hn1 : ¬ (((1 + ne * 2 : Nat) : Int) < 0) := by omega
  have hn2 : ¬ (((1 + ne * 2 + nd * 5 : Nat) : Int) < 0) := by omega
  clear hW hE hF HG
  go_enter Tryz.func31, Tryz.ntmps31
  go_upto_region 1 with fail
  rw [← HW.out]
  go_wp2_with fail
  refine (HM.out).mono ?_
  rintro e w1 ⟨rfl, hb1⟩
  clear a0 a1 a2
  obtain ⟨a0, a1, a2, _⟩ := HK.out _ hb1
  go_wp2_with fail
  refine (HD.out _ hb1).mono ?_
  rintro e w2 ⟨rfl, hb2⟩
  clear a0 a1 a2
  go_wp2
  go_ret
  exact ⟨rfl, below_then HB (below_then hb1 hb2)⟩
end Go.Proofs.YtmfkdgdamepbcaaGreatDoor
end
