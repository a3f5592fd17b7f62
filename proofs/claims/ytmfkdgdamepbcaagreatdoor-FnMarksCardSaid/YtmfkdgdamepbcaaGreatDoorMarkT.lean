/- The laws' marks: markText; rows of two texts that are marked and held. -/
import Derived.Test.YtmfkdgdamepbcaaGreatDoorEntL
import Derived.Test.YtmfkdgdamepbcaaGreatDoorBase
import Derived.Laws.BytesArg
namespace Go.Proofs.YtmfkdgdamepbcaaGreatDoor
open Go.RowKit
set_option linter.unusedVariables false
set_option linter.unusedSimpArgs false
set_option maxRecDepth 20000
set_option maxHeartbeats 4000000
def mkD : Nat → Nat → ByteArray → ByteArray
  | 0, _, out => out
  | f + 1, k, out => if k = 0 then out else mkD f (k / 10) (strOfNums [48 + ((k % 10 : Nat) : Int)] ++ out)
def markB (k : Nat) : ByteArray := (⟨#[109]⟩ : ByteArray) ++ mkD k k ⟨#[]⟩
theorem mkD_fuel : ∀ (f f' k : Nat) (out : ByteArray), k ≤ f → k ≤ f' → mkD f k out = mkD f' k out
  | 0, 0, _, _, _, _ => rfl
  | 0, f' + 1, k, out, h, _ => by rw [mkD, mkD, if_pos (by omega)]
  | f + 1, 0, k, out, _, h => by rw [mkD, mkD, if_pos (by omega)]
  | f + 1, f' + 1, k, out, h1, h2 => by
    rw [mkD, mkD]
    split
    · rfl
    · rw [mkD_fuel f f' (k / 10) _ (by omega) (by omega)]
theorem mkD_at {k : Nat} {out : ByteArray} (h : ¬ k = 0) : mkD k k out = mkD (k / 10) (k / 10) (strOfNums [48 + ((k % 10 : Nat) : Int)] ++ out) := by
  obtain ⟨j, rfl⟩ : ∃ j, k = j + 1 := ⟨k - 1, by omega⟩
  rw [mkD, if_neg h, mkD_fuel j ((j + 1) / 10) _ _ (by omega) (by omega)]
theorem conv_byte (W : World) (u : Int) : (convert 22 9 (.slice (some ⟨W.heap.size, 0, none⟩) 1 1)).run Tryz.prog (W.alloc (.cells #[.int .u8 u] 5)) = .ok (.string (strOfNums [u])) (W.alloc (.cells #[.int .u8 u] 5)) := by
  refine run_convert_bytes_arg (P := Tryz.prog) _ 22 5 Tryz.underlying22 Tryz.underlying5 W.heap.size 0 1 1 [u] rfl ?_ 9 Tryz.underlying9
  intro i hi
  obtain rfl : i = 0 := by omega
  simp
theorem markText_calls (k : Nat) (w : World) (h1 : 1 ≤ k) (h2 : k ≤ 1099511627776) :
    Calls Tryz.prog 52 #[.int .i64 (k : Nat)] w fun e w' => e = .returned (.string (markB k)) ∧ Below w.heap.size w w' := by
  obtain ⟨R, hR⟩ : ∃ R, R = mkD k k ⟨#[]⟩ := ⟨_, rfl⟩
  have hv := Aside0.mk (show markB k = (⟨#[109]⟩ : ByteArray) ++ R by rw [markB, hR])
  have hR := Aside0.mk hR
  go_enter Tryz.func52, Tryz.ntmps52
  go_wp2
  go_loopg [0, 3] k (fun g x s wr => ∃ (j : Nat) (t : ByteArray), x = .int .i64 (j : Nat) ∧ s = .string t ∧ j = g ∧ t.size + j ≤ k ∧ Aside (R = mkD j j t) ∧ Below w.heap.size w wr)
  case atStart => exact ⟨k, _, rfl, rfl, rfl, by show 0 + k ≤ k; omega, hR.out, Below.refl _ _⟩
  case round =>
    obtain ⟨j, t, rfl, rfl, hk, hts, ha, hb⟩ := hrel
    subst hk
    by_cases hj : j = 0
    · subst hj
      have hfin := Aside0.mk (show markB k = (⟨#[109]⟩ : ByteArray) ++ t by rw [hv.out, ha.out]; rfl)
      have hss : ¬ (9223372036854775807 < (⟨#[109]⟩ : ByteArray).size + t.size) := by
        show ¬ (9223372036854775807 < 1 + t.size)
        omega
      clear ha
      go_wp2
      go_ret
      exact ⟨by rw [hfin.out]; rfl, hb⟩
    · have hcv := conv_byte wr
      have ha2 := Aside0.mk (ha.out.trans (mkD_at hj))
      clear ha
      have hss : ∀ u : Int, ¬ (9223372036854775807 < (strOfNums [u]).size + t.size) := fun u => by rw [strOfNums_size]; simp; omega
      have hsz : ∀ u : Int, (strOfNums [u] ++ t).size = 1 + t.size := fun u => by rw [ByteArray.size_append, strOfNums_size]; rfl
      have HSZ := Aside0.mk hsz
      have hjp : (0 : Int) < (j : Int) := by omega
      have ha3 := Aside0.mk (show R = mkD (j / 10) (j / 10) (strOfNums [48 + (j : Int) % 10] ++ t) by rw [ha2.out]; rfl)
      clear hsz
      go_wp2
      go_roundg (j / 10)
      case measure => omega
      case rel => exact ⟨j / 10, _, rfl, rfl, rfl, by rw [HSZ.out]; omega, ha3.out, below_alloc hb _⟩
/-- The cells that marks leave. -/
def marks (k n : Nat) : List Value := (List.range (n * 2)).map fun i => .string (markB (k + i))
theorem marks_get {k n i : Nat} (h : i < n * 2) : (marks k n)[i]? = some (.string (markB (k + i))) := by simp [marks, h]
theorem marks_length (k n : Nat) : (marks k n).length = n * 2 := by simp [marks]
theorem own_grown {base size n : Nat} {e : TypeId} {v : Value} {cells : List Value} {w w1 : World} {ob : Option Nat} (h : w.ownsRow base e size v n cells) (hg : w.grownBy w1 ob) (hne : ∀ k, v.ownBlock = some k → ¬ ob = some k) : w1.ownsRow base e size v n cells := by
  obtain ⟨hcl, hh⟩ := h
  refine ⟨hcl, ?_⟩
  rcases hh with hh | ⟨g, cap, cur, rfl, hb', hh, hl⟩
  · exact .inl hh
  · exact .inr ⟨g, cap, cur, rfl, hb', (hg.block g (Array.getElem?_eq_some_iff.1 hh).1 (fun e => hne g rfl e.symm)).trans hh, hl⟩
theorem moved_by {g : Nat} {w w1 : World} (h : Moved g w w1) : w.grownBy w1 (some g) := ⟨h.os, h.tape, h.output, h.size, fun k hk hne => h.block k hk (fun e => hne (by rw [e]))⟩
theorem below_by {w w1 : World} {ob : Option Nat} (h : Below w.heap.size w w1) : w.grownBy w1 ob := ⟨h.os, h.tape, h.output, h.size, fun k hk _ => h.block k hk⟩
theorem markEntS_calls (A : Option Addr) (n c : Nat) (cells : List Value) (k base : Nat) (w : World) (ho : w.ownsRow base 57 2 (.slice A n c) n cells) (hk : 1 ≤ k) (hk2 : k + n * 2 ≤ 1000000000) :
    Calls Tryz.prog 19 #[.slice A n c, .int .i64 (k : Nat)] w fun e w' => e = .returned (.int .i64 ((k + n * 2 : Nat) : Int)) ∧ w'.ownsRow base 57 2 (.slice A n c) n (marks k n) ∧ w.grownBy w' (Value.slice A n c).ownBlock := by
  have hn9 : n ≤ 1000000000 := by omega
  cases A with
  | none =>
    have hn : n = 0 := by
      rcases ho.2 with ⟨_, h⟩ | ⟨g, cap, cur, h, _⟩
      · exact h
      · cases h
    subst hn
    have ho2 := Aside0.mk (show w.ownsRow base 57 2 (.slice none 0 c) 0 (marks k 0) by
      obtain ⟨hl, hh⟩ := ho
      refine ⟨rfl, ?_⟩
      rcases hh with ⟨h, _⟩ | ⟨g, cap, cur, h, _⟩
      · exact .inl ⟨h, rfl⟩
      · cases h)
    clear ho
    go_enter Tryz.func19, Tryz.ntmps19
    go_wp2
    go_loopg [1, 5] 0 (fun gd u i wr => u = .int .i64 (k : Nat) ∧ i = .int .i64 0 ∧ wr = w)
    case atStart => exact ⟨rfl, rfl, rfl⟩
    case round =>
      obtain ⟨rfl, rfl, rfl⟩ := hrel
      go_wp2
      go_ret
      exact ⟨rfl, ho2.out, below_by (Below.refl _ _)⟩
  | some ad =>
    obtain ⟨g, o, sp⟩ := ad
    have hg : g < w.heap.size ∧ (⟨g, o, sp⟩ : Addr) = ⟨g, 0, none⟩ := by
      rcases ho.2 with ⟨h, _⟩ | ⟨g', cap, cur, h, _, hh, _⟩
      · cases h
      · injection h with h _ _
        injection h with h
        injection h with h1 h2 h3
        subst h1 h2 h3
        exact ⟨(Array.getElem?_eq_some_iff.1 hh).1, rfl⟩
    obtain ⟨hg, ha⟩ := hg
    rw [ha] at ho ⊢
    clear ha
    have ho0 := Aside0.mk ho
    have HT := Aside0.mk (fun (j : Nat) W (h : 1 ≤ j) (h2 : j ≤ 1099511627776) => markText_calls j W h h2)
    clear ho
    go_enter Tryz.func19, Tryz.ntmps19
    go_wp2
    go_loopg [1, 5] n (fun gd u i wr => ∃ (j : Nat) (cs : List Value), u = .int .i64 ((k + j * 2 : Nat) : Int) ∧ i = .int .i64 (j : Nat) ∧ j + gd = n ∧ Aside (wr.ownsRow base 57 2 (.slice (some ⟨g, 0, none⟩) n c) n cs) ∧ Aside (∀ i, i < j * 2 → cs[i]? = some (.string (markB (k + i)))) ∧ Aside (Moved g w wr))
    case atStart => exact ⟨0, _, rfl, rfl, by omega, ho0.out, (fun i hi => by omega), Moved.refl _ _⟩
    case round =>
      obtain ⟨j, cs, rfl, rfl, hj, hO, hM, hm⟩ := hrel
      by_cases hlt : j < n
      · have i1 : ((k + j * 2 : Nat) : Int) = (k : Int) + (j : Int) * 2 := by omega
        have HT1 := Aside0.mk (HT.out (k + j * 2) wr (by omega) (by omega))
        go_wp2_with fail
        refine HT1.out.mono ?_
        rintro e w1 ⟨rfl, hb1⟩
        have hO1 := own_below hO.out hb1
        obtain ⟨⟨u0, hu0⟩, hf0⟩ := fill_cellN hO1 (i := j * 2) (by omega)
        have hO2 := Aside0.mk (hO1.stored (j * 2) (.string (markB (k + j * 2)))).1
        have hm2 := Aside0.mk ((hm.out.then hb1).set (o := j * 2) (u := .string (markB (k + j * 2))))
        have HT2 := Aside0.mk (fun W => HT.out (k + j * 2 + 1) W (by omega) (by omega))
        rw [show ((k + j * 2 + 1 : Nat) : Int) = ((k + j * 2 : Nat) : Int) + 1 from rfl] at HT2
        clear hO1
        go_wp2_with fail
        refine (HT2.out _).mono ?_
        rintro e w3 ⟨rfl, hb3⟩
        clear hu0 hf0
        have hO3 := own_below hO2.out hb3
        obtain ⟨⟨u1, hu1⟩, hf1⟩ := fill_cellN hO3 (i := j * 2 + 1) (by omega)
        have hO4 := Aside0.mk (hO3.stored (j * 2 + 1) (.string (markB (k + j * 2 + 1)))).1
        have hm4 := Aside0.mk ((hm2.out.then hb3).set (o := j * 2 + 1) (u := .string (markB (k + j * 2 + 1))))
        have hcl : cs.length = n * 2 := hO.out.1
        have hM4 := Aside0.mk (show ∀ i, i < (j + 1) * 2 → ((cs.set (j * 2) (.string (markB (k + j * 2)))).set (j * 2 + 1) (.string (markB (k + j * 2 + 1))))[i]? = some (.string (markB (k + i))) from fun i hi => by
          rw [List.getElem?_set]
          split
          · rename_i e
            subst e
            rw [if_pos (by rw [List.length_set]; omega)]
            rfl
          · rw [List.getElem?_set]
            split
            · rename_i e
              subst e
              rw [if_pos (by omega)]
            · exact hM.out i (by omega))
        clear hO3 hcl
        go_wp2
        go_roundg (gk - 1)
        case measure => omega
        case rel => exact ⟨j + 1, _, by go_num, by go_num, by omega, hO4.out, hM4.out, hm4.out⟩
      · have hfin := Aside0.mk (show k + j * 2 = k + n * 2 by omega)
        have hO2 := Aside0.mk (show wr.ownsRow base 57 2 (.slice (some ⟨g, 0, none⟩) n c) n (marks k n) by
          have e : cs = marks k n := by
            apply List.ext_getElem?
            intro i
            by_cases hi : i < n * 2
            · rw [hM.out i (by omega), marks_get hi]
            · rw [List.getElem?_eq_none (by rw [hO.out.1]; omega), List.getElem?_eq_none (by rw [marks_length]; omega)]
          rw [← e]; exact hO.out)
        go_wp2
        go_ret
        exact ⟨by rw [← hfin.out]; rfl, hO2.out, moved_by hm.out⟩
theorem markRawS_calls (A : Option Addr) (n c : Nat) (cells : List Value) (k base : Nat) (w : World) (ho : w.ownsRow base 33 2 (.slice A n c) n cells) (hk : 1 ≤ k) (hk2 : k + n * 2 ≤ 1000000000) :
    Calls Tryz.prog 53 #[.slice A n c, .int .i64 (k : Nat)] w fun e w' => e = .returned (.int .i64 ((k + n * 2 : Nat) : Int)) ∧ w'.ownsRow base 33 2 (.slice A n c) n (marks k n) ∧ w.grownBy w' (Value.slice A n c).ownBlock := by
  have hn9 : n ≤ 1000000000 := by omega
  cases A with
  | none =>
    have hn : n = 0 := by
      rcases ho.2 with ⟨_, h⟩ | ⟨g, cap, cur, h, _⟩
      · exact h
      · cases h
    subst hn
    have ho2 := Aside0.mk (show w.ownsRow base 33 2 (.slice none 0 c) 0 (marks k 0) by
      obtain ⟨hl, hh⟩ := ho
      refine ⟨rfl, ?_⟩
      rcases hh with ⟨h, _⟩ | ⟨g, cap, cur, h, _⟩
      · exact .inl ⟨h, rfl⟩
      · cases h)
    clear ho
    go_enter Tryz.func53, Tryz.ntmps53
    go_wp2
    go_loopg [1, 5] 0 (fun gd u i wr => u = .int .i64 (k : Nat) ∧ i = .int .i64 0 ∧ wr = w)
    case atStart => exact ⟨rfl, rfl, rfl⟩
    case round =>
      obtain ⟨rfl, rfl, rfl⟩ := hrel
      go_wp2
      go_ret
      exact ⟨rfl, ho2.out, below_by (Below.refl _ _)⟩
  | some ad =>
    obtain ⟨g, o, sp⟩ := ad
    have hg : g < w.heap.size ∧ (⟨g, o, sp⟩ : Addr) = ⟨g, 0, none⟩ := by
      rcases ho.2 with ⟨h, _⟩ | ⟨g', cap, cur, h, _, hh, _⟩
      · cases h
      · injection h with h _ _
        injection h with h
        injection h with h1 h2 h3
        subst h1 h2 h3
        exact ⟨(Array.getElem?_eq_some_iff.1 hh).1, rfl⟩
    obtain ⟨hg, ha⟩ := hg
    rw [ha] at ho ⊢
    clear ha
    have ho0 := Aside0.mk ho
    have HT := Aside0.mk (fun (j : Nat) W (h : 1 ≤ j) (h2 : j ≤ 1099511627776) => markText_calls j W h h2)
    clear ho
    go_enter Tryz.func53, Tryz.ntmps53
    go_wp2
    go_loopg [1, 5] n (fun gd u i wr => ∃ (j : Nat) (cs : List Value), u = .int .i64 ((k + j * 2 : Nat) : Int) ∧ i = .int .i64 (j : Nat) ∧ j + gd = n ∧ Aside (wr.ownsRow base 33 2 (.slice (some ⟨g, 0, none⟩) n c) n cs) ∧ Aside (∀ i, i < j * 2 → cs[i]? = some (.string (markB (k + i)))) ∧ Aside (Moved g w wr))
    case atStart => exact ⟨0, _, rfl, rfl, by omega, ho0.out, (fun i hi => by omega), Moved.refl _ _⟩
    case round =>
      obtain ⟨j, cs, rfl, rfl, hj, hO, hM, hm⟩ := hrel
      by_cases hlt : j < n
      · have i1 : ((k + j * 2 : Nat) : Int) = (k : Int) + (j : Int) * 2 := by omega
        have HT1 := Aside0.mk (HT.out (k + j * 2) wr (by omega) (by omega))
        go_wp2_with fail
        refine HT1.out.mono ?_
        rintro e w1 ⟨rfl, hb1⟩
        have hO1 := own_below hO.out hb1
        obtain ⟨⟨u0, hu0⟩, hf0⟩ := fill_cellN hO1 (i := j * 2) (by omega)
        have hO2 := Aside0.mk (hO1.stored (j * 2) (.string (markB (k + j * 2)))).1
        have hm2 := Aside0.mk ((hm.out.then hb1).set (o := j * 2) (u := .string (markB (k + j * 2))))
        have HT2 := Aside0.mk (fun W => HT.out (k + j * 2 + 1) W (by omega) (by omega))
        rw [show ((k + j * 2 + 1 : Nat) : Int) = ((k + j * 2 : Nat) : Int) + 1 from rfl] at HT2
        clear hO1
        go_wp2_with fail
        refine (HT2.out _).mono ?_
        rintro e w3 ⟨rfl, hb3⟩
        clear hu0 hf0
        have hO3 := own_below hO2.out hb3
        obtain ⟨⟨u1, hu1⟩, hf1⟩ := fill_cellN hO3 (i := j * 2 + 1) (by omega)
        have hO4 := Aside0.mk (hO3.stored (j * 2 + 1) (.string (markB (k + j * 2 + 1)))).1
        have hm4 := Aside0.mk ((hm2.out.then hb3).set (o := j * 2 + 1) (u := .string (markB (k + j * 2 + 1))))
        have hcl : cs.length = n * 2 := hO.out.1
        have hM4 := Aside0.mk (show ∀ i, i < (j + 1) * 2 → ((cs.set (j * 2) (.string (markB (k + j * 2)))).set (j * 2 + 1) (.string (markB (k + j * 2 + 1))))[i]? = some (.string (markB (k + i))) from fun i hi => by
          rw [List.getElem?_set]
          split
          · rename_i e
            subst e
            rw [if_pos (by rw [List.length_set]; omega)]
            rfl
          · rw [List.getElem?_set]
            split
            · rename_i e
              subst e
              rw [if_pos (by omega)]
            · exact hM.out i (by omega))
        clear hO3 hcl
        go_wp2
        go_roundg (gk - 1)
        case measure => omega
        case rel => exact ⟨j + 1, _, by go_num, by go_num, by omega, hO4.out, hM4.out, hm4.out⟩
      · have hfin := Aside0.mk (show k + j * 2 = k + n * 2 by omega)
        have hO2 := Aside0.mk (show wr.ownsRow base 33 2 (.slice (some ⟨g, 0, none⟩) n c) n (marks k n) by
          have e : cs = marks k n := by
            apply List.ext_getElem?
            intro i
            by_cases hi : i < n * 2
            · rw [hM.out i (by omega), marks_get hi]
            · rw [List.getElem?_eq_none (by rw [hO.out.1]; omega), List.getElem?_eq_none (by rw [marks_length]; omega)]
          rw [← e]; exact hO.out)
        go_wp2
        go_ret
        exact ⟨by rw [← hfin.out]; rfl, hO2.out, moved_by hm.out⟩
theorem heldRawS_calls (A : Option Addr) (n c : Nat) (k base : Nat) (w : World) (ho : w.ownsRow base 33 2 (.slice A n c) n (marks k n)) (hk : 1 ≤ k) (hk2 : k + n * 2 ≤ 1000000000) :
    Calls Tryz.prog 54 #[.slice A n c, .int .i64 (k : Nat)] w fun e w' => e = .returned (.int .i64 ((k + n * 2 : Nat) : Int)) ∧ Below w.heap.size w w' := by
  have hn9 : n ≤ 1000000000 := by omega
  cases A with
  | none =>
    have hn : n = 0 := by
      rcases ho.2 with ⟨_, h⟩ | ⟨g, cap, cur, h, _⟩
      · exact h
      · cases h
    subst hn
    clear ho
    go_enter Tryz.func54, Tryz.ntmps54
    go_wp2
    go_loopg [1, 5] 0 (fun gd u i wr => u = .int .i64 (k : Nat) ∧ i = .int .i64 0 ∧ wr = w)
    case atStart => exact ⟨rfl, rfl, rfl⟩
    case round =>
      obtain ⟨rfl, rfl, rfl⟩ := hrel
      go_wp2
      go_ret
      exact ⟨rfl, Below.refl _ _⟩
  | some ad =>
    obtain ⟨g, o, sp⟩ := ad
    have hg : g < w.heap.size ∧ (⟨g, o, sp⟩ : Addr) = ⟨g, 0, none⟩ := by
      rcases ho.2 with ⟨h, _⟩ | ⟨g', cap, cur, h, _, hh, _⟩
      · cases h
      · injection h with h _ _
        injection h with h
        injection h with h1 h2 h3
        subst h1 h2 h3
        exact ⟨(Array.getElem?_eq_some_iff.1 hh).1, rfl⟩
    obtain ⟨hg, ha⟩ := hg
    rw [ha] at ho ⊢
    clear ha
    have hcell := Aside0.mk (fun i (hi : i < n * 2) => (ho.cellAt i hi).trans (marks_get hi))
    have HT := Aside0.mk (fun (j : Nat) W (h : 1 ≤ j) (h2 : j ≤ 1099511627776) => markText_calls j W h h2)
    clear ho
    go_enter Tryz.func54, Tryz.ntmps54
    go_wp2
    go_loopg [1, 5] n (fun gd u i wr => ∃ (j : Nat), u = .int .i64 ((k + j * 2 : Nat) : Int) ∧ i = .int .i64 (j : Nat) ∧ j + gd = n ∧ Below w.heap.size w wr)
    case atStart => exact ⟨0, rfl, rfl, by omega, Below.refl _ _⟩
    case round =>
      obtain ⟨j, rfl, rfl, hj, hb⟩ := hrel
      by_cases hlt : j < n
      · have i1 : ((k + j * 2 : Nat) : Int) = (k : Int) + (j : Int) * 2 := by omega
        have d0 := ((bcell hb).1 g (j * 2) hg).trans (hcell.out (j * 2) (by omega))
        have d1 := ((bcell hb).1 g (j * 2 + 1) hg).trans (hcell.out (j * 2 + 1) (by omega))
        rw [show k + (j * 2 + 1) = k + j * 2 + 1 by omega] at d1
        have hgr : g < wr.heap.size := Nat.lt_of_lt_of_le hg hb.size
        have C0 := later_cell d0 hgr
        have HT1 := Aside0.mk (fun x : Later wr => HT.out (k + j * 2) x.W (by omega) (by omega))
        have HT2 := Aside0.mk (fun W => HT.out (k + j * 2 + 1) W (by omega) (by omega))
        rw [show ((k + j * 2 + 1 : Nat) : Int) = ((k + j * 2 : Nat) : Int) + 1 from rfl] at HT2
        have hD1 := Aside0.mk d1
        clear d0 d1
        go_upto_region 4 with fail
        refine wp_region_later (by kernel_rfl) (by kernel_rfl) ?_
        repeat (go_big_quiet_step ((go_at_call 52; exact later_call (HT1.out _))))
        refine wpQuiet_nil ?_
        rintro _ ⟨⟨W1, hb1⟩, rfl⟩
        have d1 := ((bcell hb1).1 g (j * 2 + 1) hgr).trans hD1.out
        have C1 := later_cell d1 (Nat.lt_of_lt_of_le hgr hb1.size)
        clear C0 d1
        go_upto_region 7 with fail
        refine wp_region_later (by kernel_rfl) (by kernel_rfl) ?_
        repeat (go_big_quiet_step ((go_at_call 52; exact later_call (HT2.out _))))
        refine wpQuiet_nil ?_
        rintro _ ⟨⟨W2, hb2⟩, rfl⟩
        clear C1
        go_wp2
        go_roundg (gk - 1)
        case measure => omega
        case rel => exact ⟨j + 1, by go_num, by go_num, by omega, below_then hb (below_then hb1 hb2)⟩
      · have hfin := Aside0.mk (show k + j * 2 = k + n * 2 by omega)
        go_wp2
        go_ret
        exact ⟨by rw [← hfin.out]; rfl, hb⟩
theorem markMark_calls (kd : Int) (nm : ByteArray) (A : Option Addr) (n c : Nat) (em : Bool) (tx : ByteArray) (cells : List Value) (k base : Nat) (w : World) (ho : w.ownsRow base 33 2 (.slice A n c) n cells) (hk : 1 ≤ k) (hk2 : k + n * 2 ≤ 1000000000) :
    Calls Tryz.prog 20 #[.agg #[.int .i64 kd, .string nm, .slice A n c, .bool em, .string tx], .int .i64 (k : Nat)] w fun e w' => e = .returned (.int .i64 ((k + n * 2 : Nat) : Int)) ∧ w'.ownsRow base 33 2 (.slice A n c) n (marks k n) ∧ w.grownBy w' (Value.slice A n c).ownBlock := by
  obtain ⟨W, hW, HB, hsz, HG⟩ := boxed w #[.int .i64 kd, .string nm, .slice A n c, .bool em, .string tx] 29
  have HW := Aside0.mk hW
  have HM := Aside0.mk (markRawS_calls A n c cells k base W (own_below ho HB) hk hk2)
  obtain ⟨a0, a1, a2, a3, a4, _⟩ := cells5 HG
  clear hW HG ho
  go_enter Tryz.func20, Tryz.ntmps20
  go_upto_region 1 with fail
  rw [← HW.out]
  go_wp2_with fail
  refine (HM.out).mono ?_
  rintro e w1 ⟨rfl, ho1, hg1⟩
  clear a0 a1 a2 a3 a4
  have ho1 := Aside0.mk ho1
  go_wp2
  go_ret
  exact ⟨rfl, ho1.out, ⟨hg1.os.trans HB.os, hg1.tape.trans HB.tape, hg1.output.trans HB.output, Nat.le_trans HB.size hg1.size, fun j hj hne => (hg1.block j (Nat.lt_of_lt_of_le hj HB.size) hne).trans (HB.block j hj)⟩⟩
theorem heldMark_calls (kd : Int) (nm : ByteArray) (A : Option Addr) (n c : Nat) (em : Bool) (tx : ByteArray) (k base : Nat) (w : World) (ho : w.ownsRow base 33 2 (.slice A n c) n (marks k n)) (hk : 1 ≤ k) (hk2 : k + n * 2 ≤ 1000000000) :
    Calls Tryz.prog 21 #[.agg #[.int .i64 kd, .string nm, .slice A n c, .bool em, .string tx], .int .i64 (k : Nat)] w fun e w' => e = .returned (.int .i64 ((k + n * 2 : Nat) : Int)) ∧ Below w.heap.size w w' := by
  obtain ⟨W, hW, HB, hsz, HG⟩ := boxed w #[.int .i64 kd, .string nm, .slice A n c, .bool em, .string tx] 29
  have HW := Aside0.mk hW
  have HM := Aside0.mk (heldRawS_calls A n c k base W (own_below ho HB) hk hk2)
  obtain ⟨a0, a1, a2, a3, a4, _⟩ := cells5 HG
  clear hW HG ho
  go_enter Tryz.func21, Tryz.ntmps21
  go_upto_region 1 with fail
  rw [← HW.out]
  go_wp2_with fail
  refine (HM.out).mono ?_
  rintro e w1 ⟨rfl, hb1⟩
  clear a0 a1 a2 a3 a4
  go_wp2
  go_ret
  exact ⟨rfl, below_then HB hb1⟩
end Go.Proofs.YtmfkdgdamepbcaaGreatDoor
