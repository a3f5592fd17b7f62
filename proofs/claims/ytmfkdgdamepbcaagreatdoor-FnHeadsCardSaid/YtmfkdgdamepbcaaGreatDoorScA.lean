/- Joined: Sc, Sc2, Sc3. -/
import Derived.Test.YtmfkdgdamepbcaaGreatDoorMkB
import Derived.Test.YtmfkdgdamepbcaaGreatDoorExpI
import Derived.Test.YtmfkdgdamepbcaaGreatDoorBase
section
/- The program's scan: is, take, must, blanks, gap, name, hasName, upTo, quoted, expanded. -/
namespace Go.Proofs.YtmfkdgdamepbcaaGreatDoor
open Go.RowKit Go.Lib
set_option linter.unusedVariables false
set_option linter.unusedSimpArgs false
set_option maxHeartbeats 4000000
set_option maxRecDepth 100000
/-- Block g holds a scan: the text, the place, whether it is bad. -/
structure Sc (w : World) (g : Nat) (s : ByteArray) (a : Nat) (q : Bool) : Prop where
  heap : w.heap[g]? = some (.cells #[.string s, .int .i64 (a : Nat), .bool q] 75 (0, 0))
  le : a ≤ s.size
/-- A bad one. -/
def ScBad (w : World) (g : Nat) (s : ByteArray) : Prop := ∃ a, Sc w g s a true
section
variable {w w1 : World} {g a : Nat} {s : ByteArray} {q : Bool}
theorem Sc.lt (h : Sc w g s a q) : g < w.heap.size := (Array.getElem?_eq_some_iff.1 h.heap).1
theorem Sc.cells (h : Sc w g s a q) : w.cell? ⟨g, 0, none⟩ = some (.string s) ∧ w.cell? ⟨g, 1, none⟩ = some (.int .i64 (a : Nat)) ∧ w.cell? ⟨g, 2, none⟩ = some (.bool q) ∧ w.frozen? ⟨g, 1, none⟩ = false ∧ w.frozen? ⟨g, 2, none⟩ = false :=
  ⟨cell_of_row w g 0 _ _ _ h.heap, cell_of_row w g 1 _ _ _ h.heap, cell_of_row w g 2 _ _ _ h.heap, frozen_of_row w g 1 _ _ h.heap, frozen_of_row w g 2 _ _ h.heap⟩
theorem Sc.below (h : Sc w g s a q) (hb : Below w.heap.size w w1) : Sc w1 g s a q := ⟨(hb.block g h.lt).trans h.heap, h.le⟩
theorem Sc.setA (h : Sc w g s a q) (b : Nat) (hb : b ≤ s.size) : Sc (w.setCell ⟨g, 1, none⟩ (.int .i64 (b : Nat))) g s b q := ⟨heap_setCell_same w g 1 _ _ _ h.heap, hb⟩
theorem Sc.setQ (h : Sc w g s a q) (b : Bool) : Sc (w.setCell ⟨g, 2, none⟩ (.bool b)) g s a b := ⟨heap_setCell_same w g 2 _ _ _ h.heap, h.le⟩
theorem Sc.other {g2 : Nat} (h : Sc w g s a q) (hm : Moved g2 w w1) (hne : g ≠ g2) : Sc w1 g s a q := ⟨(hm.block g h.lt hne).trans h.heap, h.le⟩
end
theorem hasPrefix_tail (s t : ByteArray) (a : Nat) : Lib.hasPrefix (s.extract a s.size).data.toList t.data.toList = occAt s.data.toList t.data.toList a := by
  rw [tail_list]; rfl
theorem isAt_occ {s t : ByteArray} {a : Nat} (ha : a ≤ s.size) : isAtB s t (a : Nat) = occAt s.data.toList t.data.toList a := by
  rw [isAtB, decide_eq_true (show (0 : Int) ≤ (a : Nat) by omega), Bool.true_and, Int.toNat_natCast]
  cases e : occAt s.data.toList t.data.toList a with
  | false => rw [Bool.and_false]
  | true =>
    have := occ_len e
    rw [decide_eq_true (by omega)]; rfl
theorem scIs_calls (s t : ByteArray) (a g : Nat) (q : Bool) (w : World) (hs : s.size ≤ 1000000000) (h : Sc w g s a q) :
    Calls Tryz.prog 100 #[.pointer (some ⟨g, 0, none⟩), .string t] w fun e w' => e = .returned (.bool (!q && isAtB s t (a : Nat))) ∧ Below w.heap.size w w' := by
  obtain ⟨c0, c1, c2, _, _⟩ := h.cells
  have hle := h.le
  have C0 := later_cell c0 h.lt
  have C1 := later_cell c1 h.lt
  have C2 := later_cell c2 h.lt
  have i1 : (0 : Int) ≤ (a : Int) := by omega
  have i2 : (a : Int) ≤ (s.size : Int) := by omega
  have HP := Aside0.mk (fun W => Tryz.strings_HasPrefix (s.extract a s.size) t W)
  rw [hasPrefix_tail, ← isAt_occ hle] at HP
  obtain ⟨r, hr⟩ : ∃ r, r = isAtB s t (a : Nat) := ⟨_, rfl⟩
  rw [← hr] at HP ⊢
  clear hr
  clear c0 c1 c2
  cases q with
  | true =>
    go_enter Tryz.func100, Tryz.ntmps100
    go_upto_region 1 with fail
    refine wp_region_later (by kernel_rfl) (by kernel_rfl) ?_
    repeat (go_big_quiet_step (fail))
    refine wpQuiet_nil ?_
    rintro _ ⟨⟨W1, hb1⟩, rfl⟩
    go_wp2
    go_ret
    exact ⟨rfl, hb1⟩
  | false =>
    go_enter Tryz.func100, Tryz.ntmps100
    go_upto_region 1 with fail
    refine wp_region_later (by kernel_rfl) (by kernel_rfl) ?_
    repeat (go_big_quiet_step ((go_at_call 129; exact later_call ((HP.out _).mono (fun _ _ h => ⟨h.1, by rw [h.2]; exact Below.refl _ _⟩)))))
    refine wpQuiet_nil ?_
    rintro _ ⟨⟨W1, hb1⟩, rfl⟩
    go_wp2
    go_ret
    exact ⟨rfl, hb1⟩
/-- What a step of the scan may change: its own block, and new ones. -/
def ScStep (g : Nat) (w w' : World) : Prop := Moved g w w'
theorem scTake_hit (s t : ByteArray) (a g : Nat) (w : World) (hs : s.size ≤ 1000000000) (h : Sc w g s a false) (ht : isAtB s t (a : Nat) = true) :
    Calls Tryz.prog 60 #[.pointer (some ⟨g, 0, none⟩), .string t] w fun e w' => e = .returned (.bool true) ∧ Sc w' g s (a + t.size) false ∧ Moved g w w' := by
  have HI := Aside0.mk (scIs_calls s t a g false w hs h)
  rw [ht] at HI
  have hroom := isAt_room ht
  clear ht
  go_enter Tryz.func60, Tryz.ntmps60
  go_wp2_with fail
  refine (HI.out).mono ?_
  rintro e w1 ⟨rfl, hb1⟩
  have h1 := h.below hb1
  obtain ⟨c0, c1, c2, f1, f2⟩ := h1.cells
  have hn := Aside0.mk (h1.setA (a + t.size) hroom)
  rw [show ((a + t.size : Nat) : Int) = (a : Int) + (t.size : Int) from Int.natCast_add _ _] at hn
  have hm := Aside0.mk (((Moved.of hb1 : Moved g w w1)).set (o := 1) (u := .int .i64 ((a : Int) + (t.size : Int))))
  have h1 := Aside0.mk h1
  go_wp2
  go_ret
  exact ⟨rfl, hn.out, hm.out⟩
theorem scTake_miss (s t : ByteArray) (a g : Nat) (q : Bool) (w : World) (hs : s.size ≤ 1000000000) (h : Sc w g s a q) (ht : (!q && isAtB s t (a : Nat)) = false) :
    Calls Tryz.prog 60 #[.pointer (some ⟨g, 0, none⟩), .string t] w fun e w' => e = .returned (.bool false) ∧ Sc w' g s a q ∧ Moved g w w' := by
  have HI := Aside0.mk (scIs_calls s t a g q w hs h)
  rw [ht] at HI
  clear ht
  go_enter Tryz.func60, Tryz.ntmps60
  go_wp2_with fail
  refine (HI.out).mono ?_
  rintro e w1 ⟨rfl, hb1⟩
  go_wp2
  go_ret
  exact ⟨rfl, h.below hb1, Moved.of hb1⟩
theorem scMust_hit (s t : ByteArray) (a g : Nat) (w : World) (hs : s.size ≤ 1000000000) (h : Sc w g s a false) (ht : isAtB s t (a : Nat) = true) :
    Calls Tryz.prog 56 #[.pointer (some ⟨g, 0, none⟩), .string t] w fun e w' => e = .returned (.tuple #[]) ∧ Sc w' g s (a + t.size) false ∧ Moved g w w' := by
  have HI := Aside0.mk (scTake_hit s t a g w hs h ht)
  clear ht
  go_enter Tryz.func56, Tryz.ntmps56
  go_wp2_with fail
  refine (HI.out).mono ?_
  rintro e w1 ⟨rfl, h1, hm1⟩
  go_wp2
  go_end0
  exact ⟨rfl, h1, hm1⟩
theorem scMust_miss (s t : ByteArray) (a g : Nat) (q : Bool) (w : World) (hs : s.size ≤ 1000000000) (h : Sc w g s a q) (ht : (!q && isAtB s t (a : Nat)) = false) :
    Calls Tryz.prog 56 #[.pointer (some ⟨g, 0, none⟩), .string t] w fun e w' => e = .returned (.tuple #[]) ∧ Sc w' g s a true ∧ Moved g w w' := by
  have HI := Aside0.mk (scTake_miss s t a g q w hs h ht)
  clear ht
  go_enter Tryz.func56, Tryz.ntmps56
  go_wp2_with fail
  refine (HI.out).mono ?_
  rintro e w1 ⟨rfl, h1, hm1⟩
  obtain ⟨c0, c1, c2, f1, f2⟩ := h1.cells
  have hn := Aside0.mk (h1.setQ true)
  have hm := Aside0.mk (hm1.set (o := 2) (u := .bool true))
  have h1 := Aside0.mk h1
  go_wp2
  go_end0
  exact ⟨rfl, hn.out, hm.out⟩
theorem scBlanks_calls (s : ByteArray) (a g : Nat) (q : Bool) (w : World) (hs : s.size ≤ 1000000000) (h : Sc w g s a q) :
    Calls Tryz.prog 59 #[.pointer (some ⟨g, 0, none⟩)] w fun e w' => e = .returned (.bool (decide (a < blanksN s a))) ∧ Sc w' g s (blanksN s a) q ∧ Moved g w w' := by
  have hle := h.le
  have hbl := blanksN_le s a
  have HB := Aside0.mk (fun W => implBlanks_calls s a W hs (by omega))
  rw [show blanksI s a = ((blanksN s a : Nat) : Int) by rw [blanksI, if_neg (by omega), Int.toNat_natCast]] at HB
  obtain ⟨b, hbe⟩ : ∃ b, b = blanksN s a := ⟨_, rfl⟩
  rw [← hbe] at HB hbl ⊢
  clear hbe
  obtain ⟨c0, c1, c2, f1, f2⟩ := h.cells
  have HH := Aside0.mk h
  clear h
  go_enter Tryz.func59, Tryz.ntmps59
  go_upto_region 2 with fail
  go_region_with (first
    | (go_at_call 13; refine (HB.out _).mono ?_; rintro e wb ⟨rfl, rfl⟩))
  all_goals
    have hn := HH.out.setA b (hbl.2 hle)
    have hm := Aside0.mk ((Moved.refl g w).set (o := 1) (u := .int .i64 (b : Nat)))
    generalize w.setCell ⟨g, 1, none⟩ (.int .i64 (b : Nat)) = X at hn hm ⊢
    have hn := hn.below (below_drew (Below.refl _ _))
    have hm := Aside0.mk hm.out.drew
    clear c0 c1 c2 f1 f2
    obtain ⟨c0, c1, c2, f1, f2⟩ := hn.cells
    have hn := Aside0.mk hn
    go_wp2
    go_ret
    exact ⟨by first | rfl | (congr 2; simp), hn.out, hm.out⟩
def takeF (s t : ByteArray) (a : Nat) (q : Bool) : Bool × Nat := if (!q && isAtB s t (a : Nat)) = true then (true, a + t.size) else (false, a)
def mustF (s t : ByteArray) (a : Nat) (q : Bool) : Nat × Bool := if (!q && isAtB s t (a : Nat)) = true then (a + t.size, false) else (a, true)
def nameF (s : ByteArray) (a : Nat) (q : Bool) : ByteArray × Nat × Bool := if q = true then (⟨#[]⟩, a, true) else match nameO s a with | some p => (p.1, p.2, false) | none => (⟨#[]⟩, a, true)
def upF (s t : ByteArray) (a : Nat) (q : Bool) : ByteArray × Nat × Bool := if q = true then (⟨#[]⟩, a, true) else match toO s t a with | some p => (p.1, p.2, false) | none => (⟨#[]⟩, a, true)
def expO (o : Option ByteArray) (q : Bool) : ByteArray × Bool := match o with | some x => (x, q) | none => (⟨#[]⟩, true)
def expF (v : ByteArray) (l : List Dcl) (q : Bool) : ByteArray × Bool := expO (expandV v l) q
theorem scTake_calls (s t : ByteArray) (a g : Nat) (q : Bool) (w : World) (hs : s.size ≤ 1000000000) (h : Sc w g s a q) :
    Calls Tryz.prog 60 #[.pointer (some ⟨g, 0, none⟩), .string t] w fun e w' => e = .returned (.bool (takeF s t a q).1) ∧ Sc w' g s (takeF s t a q).2 q ∧ Moved g w w' := by
  cases ht : (!q && isAtB s t (a : Nat)) with
  | false => rw [takeF, ht, if_neg (by simp)]; exact scTake_miss s t a g q w hs h ht
  | true =>
    rw [takeF, ht, if_pos rfl]
    rw [Bool.and_eq_true] at ht
    cases q with
    | true => simp at ht
    | false => exact scTake_hit s t a g w hs h ht.2
theorem scMust_calls (s t : ByteArray) (a g : Nat) (q : Bool) (w : World) (hs : s.size ≤ 1000000000) (h : Sc w g s a q) :
    Calls Tryz.prog 56 #[.pointer (some ⟨g, 0, none⟩), .string t] w fun e w' => e = .returned (.tuple #[]) ∧ Sc w' g s (mustF s t a q).1 (mustF s t a q).2 ∧ Moved g w w' := by
  cases ht : (!q && isAtB s t (a : Nat)) with
  | false => rw [mustF, ht, if_neg (by simp)]; exact scMust_miss s t a g q w hs h ht
  | true =>
    rw [mustF, ht, if_pos rfl]
    rw [Bool.and_eq_true] at ht
    cases q with
    | true => simp at ht
    | false => exact scMust_hit s t a g w hs h ht.2
theorem scGap_calls (s : ByteArray) (a g : Nat) (q : Bool) (w : World) (hs : s.size ≤ 1000000000) (h : Sc w g s a q) :
    Calls Tryz.prog 57 #[.pointer (some ⟨g, 0, none⟩)] w fun e w' => e = .returned (.tuple #[]) ∧ Sc w' g s (blanksN s a) (q || !decide (a < blanksN s a)) ∧ Moved g w w' := by
  have HB := Aside0.mk (scBlanks_calls s a g q w hs h)
  obtain ⟨b, hbe⟩ : ∃ b, b = blanksN s a := ⟨_, rfl⟩
  rw [← hbe] at HB ⊢
  clear hbe
  cases hd : decide (a < b) with
  | true =>
    rw [hd] at HB
    rw [show (q || !true) = q by simp]
    clear hd
    go_enter Tryz.func57, Tryz.ntmps57
    go_wp2_with fail
    refine (HB.out).mono ?_
    rintro e w1 ⟨rfl, h1, hm1⟩
    go_wp2
    go_end0
    exact ⟨rfl, h1, hm1⟩
  | false =>
    rw [hd] at HB
    rw [show (q || !false) = true by simp]
    clear hd
    go_enter Tryz.func57, Tryz.ntmps57
    go_wp2_with fail
    refine (HB.out).mono ?_
    rintro e w1 ⟨rfl, h1, hm1⟩
    obtain ⟨c0, c1, c2, f1, f2⟩ := h1.cells
    have hn := Aside0.mk (h1.setQ true)
    have hm := Aside0.mk (hm1.set (o := 2) (u := .bool true))
    have h1 := Aside0.mk h1
    go_wp2
    go_end0
    exact ⟨rfl, hn.out, hm.out⟩
theorem scName_calls (s : ByteArray) (a g : Nat) (q : Bool) (w : World) (hs : s.size ≤ 1000000000) (h : Sc w g s a q) (hE : Env w) :
    Calls Tryz.prog 58 #[.pointer (some ⟨g, 0, none⟩)] w fun e w' => e = .returned (.string (nameF s a q).1) ∧ Sc w' g s (nameF s a q).2.1 (nameF s a q).2.2 ∧ Moved g w w' := by
  obtain ⟨c0, c1, c2, f1, f2⟩ := h.cells
  have hle := h.le
  have HH := Aside0.mk h
  cases q with
  | true =>
    clear hE h
    rw [show nameF s a true = (⟨#[]⟩, a, true) from rfl]
    go_enter Tryz.func58, Tryz.ntmps58
    go_wp2
    go_ret
    exact ⟨rfl, HH.out, Moved.refl _ _⟩
  | false =>
    have C0 := later_cell c0 h.lt
    have C1 := later_cell c1 h.lt
    have HN := Aside0.mk (fun x : Later w => implNameAt_calls s a x.W hs hle (hE.below x.h))
    obtain ⟨k, hk⟩ : ∃ k, k = nameEnd s a := ⟨_, rfl⟩
    rw [← hk] at HN
    obtain ⟨n, hn⟩ : ∃ n, n = s.extract a k := ⟨_, rfl⟩
    rw [← hn] at HN
    have hkl : k ≤ s.size := by rw [hk]; exact (nameEnd_le s a).2 hle
    have HS := Aside0.mk (fun W1 (hb : Below w.heap.size w W1) => implSplitName_calls n W1 (by rw [hn, ByteArray.size_extract]; omega) (hE.below hb))
    have hv : nameO s a = if (splitName n).isSome = true then some (n, k) else none := by rw [nameO, ← hk, ← hn]
    clear hk hn h hE
    cases hq : splitName n with
    | none =>
      rw [show nameF s a false = (⟨#[]⟩, a, true) by rw [nameF, hv, hq]; rfl]
      rw [hq] at HS
      clear hq hv
      go_enter Tryz.func58, Tryz.ntmps58
      go_upto_region 3 with fail
      clear c0 c1 c2
      refine wp_region_later (by kernel_rfl) (by kernel_rfl) ?_
      repeat (go_big_quiet_step ((go_at_call 98; exact later_call (HN.out _))))
      refine wpQuiet_nil ?_
      rintro _ ⟨⟨W1, hb1⟩, rfl⟩
      go_wp2_with fail
      refine (HS.out _ hb1).mono ?_
      rintro e w2 ⟨rfl, hb2⟩
      simp only [snV]
      have hb2 := below_then hb1 hb2
      have h2 := HH.out.below hb2
      clear C0 C1 f1 f2
      obtain ⟨c0, c1, c2, f1, f2⟩ := h2.cells
      have hn := Aside0.mk (h2.setQ true)
      have hm := Aside0.mk ((Moved.of hb2 : Moved g w w2).set (o := 2) (u := .bool true))
      have h2 := Aside0.mk h2
      go_wp2
      go_ret
      exact ⟨rfl, hn.out, hm.out⟩
    | some p =>
      obtain ⟨p1, p2⟩ := p
      rw [show nameF s a false = (n, k, false) by rw [nameF, hv, hq]; rfl]
      rw [hq] at HS
      clear hq hv
      go_enter Tryz.func58, Tryz.ntmps58
      go_upto_region 3 with fail
      clear c0 c1 c2
      refine wp_region_later (by kernel_rfl) (by kernel_rfl) ?_
      repeat (go_big_quiet_step ((go_at_call 98; exact later_call (HN.out _))))
      refine wpQuiet_nil ?_
      rintro _ ⟨⟨W1, hb1⟩, rfl⟩
      go_wp2_with fail
      refine (HS.out _ hb1).mono ?_
      rintro e w2 ⟨rfl, hb2⟩
      simp only [snV]
      have hb2 := below_then hb1 hb2
      have h2 := HH.out.below hb2
      clear C0 C1 f1 f2
      obtain ⟨c0, c1, c2, f1, f2⟩ := h2.cells
      have hn := Aside0.mk (h2.setA k hkl)
      have hm := Aside0.mk ((Moved.of hb2 : Moved g w w2).set (o := 1) (u := .int .i64 (k : Nat)))
      have h2 := Aside0.mk h2
      go_wp2
      go_ret
      exact ⟨rfl, hn.out, hm.out⟩
theorem scHasName_calls (s : ByteArray) (a g : Nat) (w : World) (hs : s.size ≤ 1000000000) (h : Sc w g s a false) (hE : Env w) :
    Calls Tryz.prog 113 #[.pointer (some ⟨g, 0, none⟩)] w fun e w' => e = .returned (.bool (decide (a < nameEnd s a))) ∧ Below w.heap.size w w' := by
  obtain ⟨c0, c1, c2, f1, f2⟩ := h.cells
  have hle := h.le
  have C0 := later_cell c0 h.lt
  have C1 := later_cell c1 h.lt
  have HN := Aside0.mk (fun x : Later w => implNameAt_calls s a x.W hs hle (hE.below x.h))
  have HH := Aside0.mk h
  have hl := nameEnd_le s a
  obtain ⟨k, hk⟩ : ∃ k, k = nameEnd s a := ⟨_, rfl⟩
  rw [← hk] at HN hl ⊢
  obtain ⟨n, hn⟩ : ∃ n, n = s.extract a k := ⟨_, rfl⟩
  rw [← hn] at HN
  have hnz : n.size = k - a := by rw [hn, ByteArray.size_extract]; omega
  clear hk hn h hE
  by_cases hak : a < k
  · have hne : ¬ n = ⟨#[]⟩ := by
      intro e
      rw [e] at hnz
      have : (⟨#[]⟩ : ByteArray).size = 0 := rfl
      omega
    have n1 := str_ne0 hne
    have n2 := str_neE hne
    rw [decide_eq_true hak]
    clear hne
    go_enter Tryz.func113, Tryz.ntmps113
    go_upto_region 1 with fail
    clear c0 c1 c2 f1 f2
    refine wp_region_later (by kernel_rfl) (by kernel_rfl) ?_
    repeat (go_big_quiet_step ((go_at_call 98; exact later_call (HN.out _))))
    refine wpQuiet_nil ?_
    rintro _ ⟨⟨W1, hb1⟩, rfl⟩
    have h2 := HH.out.below hb1
    clear C0 C1
    obtain ⟨c0, c1, c2, f1, f2⟩ := h2.cells
    have h2 := Aside0.mk h2
    go_wp2
    go_ret
    exact ⟨rfl, hb1⟩
  · have hne : n = ⟨#[]⟩ := by
      apply str_ext
      apply List.eq_nil_of_length_eq_zero
      rw [str_size]; omega
    subst hne
    rw [decide_eq_false hak]
    go_enter Tryz.func113, Tryz.ntmps113
    go_upto_region 1 with fail
    clear c0 c1 c2 f1 f2
    refine wp_region_later (by kernel_rfl) (by kernel_rfl) ?_
    repeat (go_big_quiet_step ((go_at_call 98; exact later_call (HN.out _))))
    refine wpQuiet_nil ?_
    rintro _ ⟨⟨W1, hb1⟩, rfl⟩
    have h2 := HH.out.below hb1
    clear C0 C1
    obtain ⟨c0, c1, c2, f1, f2⟩ := h2.cells
    have h2 := Aside0.mk h2
    go_wp2
    go_ret
    exact ⟨rfl, hb1⟩
theorem scUpTo_calls (s t : ByteArray) (a g : Nat) (q : Bool) (w : World) (hs : s.size ≤ 1000000000) (ht : t.size ≤ 1000000) (h : Sc w g s a q) (hE : Env w) :
    Calls Tryz.prog 80 #[.pointer (some ⟨g, 0, none⟩), .string t] w fun e w' => e = .returned (.string (upF s t a q).1) ∧ Sc w' g s (upF s t a q).2.1 (upF s t a q).2.2 ∧ Moved g w w' := by
  obtain ⟨c0, c1, c2, f1, f2⟩ := h.cells
  have hle := h.le
  have HH := Aside0.mk h
  cases q with
  | true =>
    clear hE h
    rw [show upF s t a true = (⟨#[]⟩, a, true) from rfl]
    go_enter Tryz.func80, Tryz.ntmps80
    go_wp2
    go_ret
    exact ⟨rfl, HH.out, Moved.refl _ _⟩
  | false =>
    have C0 := later_cell c0 h.lt
    have C1 := later_cell c1 h.lt
    have i1 : (0 : Int) ≤ (a : Int) := by omega
    have i2 : (a : Int) ≤ (s.size : Int) := by omega
    have hz : (s.extract a s.size).size ≤ 1000000000 := by rw [ByteArray.size_extract]; omega
    by_cases hi : 0 ≤ index (s.data.toList.drop a) t.data.toList
    · obtain ⟨i, hie⟩ : ∃ i : Nat, index (s.data.toList.drop a) t.data.toList = i := ⟨(index (s.data.toList.drop a) t.data.toList).toNat, by omega⟩
      have hto : toO s t a = some (s.extract a (a + i), a + i + t.size) := by rw [toO, hie, if_pos (by omega), Int.toNat_natCast]
      have hnx := toO_next hle hto
      have HC := Aside0.mk (fun x : Later w => Cut_calls (s.extract a s.size) t x.W hz (hE.below x.h) (s.extract a (a + i)) (s.extract (a + i + t.size) s.size) true (by have := cut_tail s t.data.toList a i hie; rw [str_size] at this; exact this))
      rw [show upF s t a false = (s.extract a (a + i), a + i + t.size, false) by rw [upF, hto]; rfl]
      obtain ⟨v, hv⟩ : ∃ v, v = s.extract a (a + i) := ⟨_, rfl⟩
      have hvz : v.size = i := by rw [hv, ByteArray.size_extract]; omega
      rw [← hv] at HC ⊢
      clear hi hie hto h hE hv
      go_enter Tryz.func80, Tryz.ntmps80
      go_upto_region 3 with fail
      clear c0 c1 c2
      refine wp_region_later (by kernel_rfl) (by kernel_rfl) ?_
      repeat (go_big_quiet_step ((go_at_call 112; exact later_call ((HC.out _).mono (fun _ _ h => ⟨h.1, h.2.below⟩)))))
      refine wpQuiet_nil ?_
      rintro _ ⟨⟨W1, hb1⟩, rfl⟩
      have h2 := HH.out.below hb1
      clear C0 C1 f1 f2
      obtain ⟨c0, c1, c2, f1, f2⟩ := h2.cells
      have hn := Aside0.mk (h2.setA (a + i + t.size) hnx.2.1)
      rw [show ((a + i + t.size : Nat) : Int) = (a : Int) + ((i : Int) + (t.size : Int)) by omega] at hn
      have hm := Aside0.mk ((Moved.of hb1 : Moved g w _).set (o := 1) (u := .int .i64 ((a : Int) + ((i : Int) + (t.size : Int)))))
      have h2 := Aside0.mk h2
      go_wp2
      go_ret
      exact ⟨rfl, hn.out, hm.out⟩
    · have hto : toO s t a = none := by rw [toO, if_neg hi]
      have HC := Aside0.mk (fun x : Later w => Cut_calls (s.extract a s.size) t x.W hz (hE.below x.h) (s.extract a s.size) ⟨#[]⟩ false (by exact cut_tail_no s t.data.toList a (by omega)))
      rw [show upF s t a false = (⟨#[]⟩, a, true) by rw [upF, hto]; rfl]
      clear hi hto h hE
      go_enter Tryz.func80, Tryz.ntmps80
      go_upto_region 3 with fail
      clear c0 c1 c2
      refine wp_region_later (by kernel_rfl) (by kernel_rfl) ?_
      repeat (go_big_quiet_step ((go_at_call 112; exact later_call ((HC.out _).mono (fun _ _ h => ⟨h.1, h.2.below⟩)))))
      refine wpQuiet_nil ?_
      rintro _ ⟨⟨W1, hb1⟩, rfl⟩
      have h2 := HH.out.below hb1
      clear C0 C1 f1 f2
      obtain ⟨c0, c1, c2, f1, f2⟩ := h2.cells
      have hn := Aside0.mk (h2.setQ true)
      have hm := Aside0.mk ((Moved.of hb1 : Moved g w _).set (o := 2) (u := .bool true))
      have h2 := Aside0.mk h2
      go_wp2
      go_ret
      exact ⟨rfl, hn.out, hm.out⟩
theorem scExpanded_calls {ok : Nat → Prop} (s v : ByteArray) (a g : Nat) (q : Bool) (A : Option Addr) (c : Nat) (l : List Dcl) (w : World) (h : Sc w g s a q) (hr : Row Kd.dcl w ok A l) (hv : v.size ≤ 1000000000) (hz : ∀ d ∈ l, d.pre.size ≤ 1048576 ∧ d.uri.size ≤ 1048576) (hE : Env w) :
    Calls Tryz.prog 114 #[.pointer (some ⟨g, 0, none⟩), .string v, .slice A l.length c] w fun e w' => e = .returned (.string (expF v l q).1) ∧ Sc w' g s a (expF v l q).2 ∧ Moved g w w' := by
  have HX := Aside0.mk (implExpand_calls v A c l w hr hv hz hE)
  obtain ⟨ex, hex⟩ : ∃ ex, ex = expandV v l := ⟨_, rfl⟩
  rw [← hex] at HX
  have hF : expF v l q = expO ex q := by rw [expF, ← hex]
  rw [hF]
  have HH := Aside0.mk h
  clear hex hF hr hz hE h
  cases ex with
  | none =>
    cases q with
    | true =>
      go_enter Tryz.func114, Tryz.ntmps114
      go_wp2_with fail
      refine (HX.out).mono ?_
      rintro e w1 ⟨rfl, hb1⟩
      simp only [optV]
      have h1 := HH.out.below hb1
      obtain ⟨c0, c1, c2, f1, f2⟩ := h1.cells
      have hn := Aside0.mk (h1.setQ true)
      have hm := Aside0.mk ((Moved.of hb1 : Moved g w w1).set (o := 2) (u := .bool true))
      have h1 := Aside0.mk h1
      go_wp2
      go_ret
      exact ⟨rfl, hn.out, hm.out⟩
    | false =>
      go_enter Tryz.func114, Tryz.ntmps114
      go_wp2_with fail
      refine (HX.out).mono ?_
      rintro e w1 ⟨rfl, hb1⟩
      simp only [optV]
      have h1 := HH.out.below hb1
      obtain ⟨c0, c1, c2, f1, f2⟩ := h1.cells
      have hn := Aside0.mk (h1.setQ true)
      have hm := Aside0.mk ((Moved.of hb1 : Moved g w w1).set (o := 2) (u := .bool true))
      have h1 := Aside0.mk h1
      go_wp2
      go_ret
      exact ⟨rfl, hn.out, hm.out⟩
  | some x =>
    cases q with
    | true =>
      go_enter Tryz.func114, Tryz.ntmps114
      go_wp2_with fail
      refine (HX.out).mono ?_
      rintro e w1 ⟨rfl, hb1⟩
      simp only [optV]
      have h1 := HH.out.below hb1
      obtain ⟨c0, c1, c2, f1, f2⟩ := h1.cells
      have hn := Aside0.mk (h1.setQ true)
      have hm := Aside0.mk ((Moved.of hb1 : Moved g w w1).set (o := 2) (u := .bool true))
      have h1 := Aside0.mk h1
      go_wp2
      go_ret
      exact ⟨rfl, hn.out, hm.out⟩
    | false =>
      go_enter Tryz.func114, Tryz.ntmps114
      go_wp2_with fail
      refine (HX.out).mono ?_
      rintro e w1 ⟨rfl, hb1⟩
      simp only [optV]
      have h1 := HH.out.below hb1
      obtain ⟨c0, c1, c2, f1, f2⟩ := h1.cells
      have hn := Aside0.mk (h1.setQ false)
      have hm := Aside0.mk ((Moved.of hb1 : Moved g w w1).set (o := 2) (u := .bool false))
      have h1 := Aside0.mk h1
      go_wp2
      go_ret
      exact ⟨rfl, hn.out, hm.out⟩
end Go.Proofs.YtmfkdgdamepbcaaGreatDoor
end
section
/- The program's scan: quoted, told, text. -/
namespace Go.Proofs.YtmfkdgdamepbcaaGreatDoor
open Go.RowKit Go.Lib
set_option linter.unusedVariables false
set_option linter.unusedSimpArgs false
set_option maxHeartbeats 0
set_option maxRecDepth 100000
theorem Moved.new {g g2 : Nat} {a b c : World} (h : Moved g a b) (k : Moved g2 b c) (h2 : a.heap.size ≤ g2) : Moved g a c :=
  ⟨k.os.trans h.os, k.tape.trans h.tape, k.output.trans h.output, Nat.le_trans h.size k.size, fun j hj hne => (k.block j (Nat.lt_of_lt_of_le hj h.size) (by omega)).trans (h.block j hj hne)⟩
/-- A world ahead of the scan's block, and what holds there. -/
structure Bs (W0 : World) (g : Nat) (w : World) : Prop where
  env : Env W0
  hb : Below W0.heap.size W0 w
  hg : W0.heap.size ≤ g
namespace Bs
variable {W0 w w1 : World} {g : Nat}
theorem here (h : Bs W0 g w) : Env w := h.env.below h.hb
theorem moved (h : Bs W0 g w) (hm : Moved g w w1) : Bs W0 g w1 := ⟨h.env, below_moved h.hb hm h.hg, h.hg⟩
theorem below (h : Bs W0 g w) (hb : Below w.heap.size w w1) : Bs W0 g w1 := ⟨h.env, below_then h.hb hb, h.hg⟩
end Bs
def ScMk (w : World) (g : Nat) (s : ByteArray) (o : Option (Mk × Nat)) (e : Ending) (w' : World) : Prop :=
  ∃ (m : Mk) (rv : Value), e = .returned (mkV m rv) ∧ RawsAt w w' rv m.raws ∧ Moved g w w' ∧ (match o with | none => ScBad w' g s | some q => m = q.1 ∧ Sc w' g s q.2 false)
section
variable {w cur w' : World} {g p : Nat} {s n t : ByteArray} {o : Option (Mk × Nat)} {k : Int} {b : Bool}
theorem ScMk.at (hg : g < w.heap.size) (hm : Moved g w cur) (h : Sc cur g s p false) (ho : o = some (⟨k, n, [], b, t⟩, p)) (hX : Moved w.heap.size cur w') :
    ScMk w g s o (.returned (.agg #[.int .i64 k, .string n, .slice none 0 0, .bool b, .string t])) w' := by
  subst ho
  exact ⟨⟨k, n, [], b, t⟩, _, rfl, RawsAt.nil _ _, hm.new hX (Nat.le_refl _), rfl, h.other hX (by omega)⟩
theorem ScMk.none (hg : g < w.heap.size) (hm : Moved g w cur) (h : Sc cur g s p true) (ho : o = .none) (hX : Moved w.heap.size cur w') :
    ScMk w g s o (.returned (.agg #[.int .i64 k, .string n, .slice .none 0 0, .bool b, .string t])) w' := by
  subst ho
  exact ⟨⟨k, n, [], b, t⟩, _, rfl, RawsAt.nil _ _, hm.new hX (Nat.le_refl _), _, h.other hX (by omega)⟩
end
/-! ### quoted -/
def quotG (s qt : ByteArray) (a : Nat) (q : Bool) : ByteArray × Nat × Bool :=
  ((upF s qt (mustF s qt a q).1 (mustF s qt a q).2).1, (upF s qt (mustF s qt a q).1 (mustF s qt a q).2).2.1, (upF s qt (mustF s qt a q).1 (mustF s qt a q).2).2.2 || hasB (upF s qt (mustF s qt a q).1 (mustF s qt a q).2).1 [60])
def quotF (s : ByteArray) (a : Nat) (q : Bool) : ByteArray × Nat × Bool := quotG s (if (!q && isAtB s ⟨#[34]⟩ (a : Nat)) = true then ⟨#[34]⟩ else ⟨#[39]⟩) a q
theorem mustF_hit {s t : ByteArray} {a : Nat} (h : isAtB s t (a : Nat) = true) : mustF s t a false = (a + t.size, false) := by rw [mustF, h]; rfl
theorem mustF_miss {s t : ByteArray} {a : Nat} (h : isAtB s t (a : Nat) = false) (q : Bool) : mustF s t a q = (a, true) := by rw [mustF, h, Bool.and_false]; rfl
theorem mustF_bad (s t : ByteArray) (a : Nat) : mustF s t a true = (a, true) := rfl
theorem upF_some {s t b : ByteArray} {a k : Nat} (h : toO s t a = some (b, k)) : upF s t a false = (b, k, false) := by rw [upF, h]; rfl
theorem upF_none {s t : ByteArray} {a : Nat} (h : toO s t a = none) : upF s t a false = (⟨#[]⟩, a, true) := by rw [upF, h]; rfl
theorem upF_bad (s t : ByteArray) (a : Nat) : upF s t a true = (⟨#[]⟩, a, true) := rfl
theorem upF_size {s t : ByteArray} {a : Nat} {q : Bool} (ha : a ≤ s.size) : (upF s t a q).1.size ≤ s.size := by
  unfold upF
  split
  · exact Nat.zero_le _
  · cases e : toO s t a with
    | none => exact Nat.zero_le _
    | some p => obtain ⟨b, k⟩ := p; have := toO_next ha e; show b.size ≤ _; omega
theorem mustF_le {s t : ByteArray} {a : Nat} {q : Bool} (ha : a ≤ s.size) : (mustF s t a q).1 ≤ s.size := by
  unfold mustF
  split
  · rename_i h
    rw [Bool.and_eq_true] at h
    exact isAt_room h.2
  · exact ha
theorem at_one {s : ByteArray} {b : UInt8} {a : Nat} (h : isAtB s ⟨#[b]⟩ (a : Nat) = true) : s.extract a (a + 1) = ⟨#[b]⟩ := by
  have hr : a + 1 ≤ s.size := isAt_room h
  rw [isAt_occ (by omega)] at h
  have ho := occ_test s ⟨#[b]⟩ a
  rw [h] at ho
  have e := eq_of_beq ho
  rw [ByteArray.toList_eq, ByteArray.toList_eq] at e
  exact str_ext e
theorem quot_34 {s : ByteArray} {a : Nat} (h : isAtB s ⟨#[34]⟩ (a : Nat) = true) : quotF s a false = ((upF s ⟨#[34]⟩ (a + 1) false).1, (upF s ⟨#[34]⟩ (a + 1) false).2.1, (upF s ⟨#[34]⟩ (a + 1) false).2.2 || hasB (upF s ⟨#[34]⟩ (a + 1) false).1 [60]) := by
  rw [quotF, h]
  show quotG s ⟨#[34]⟩ a false = _
  rw [quotG, mustF_hit h]; rfl
theorem quot_39 {s : ByteArray} {a : Nat} (h1 : isAtB s ⟨#[34]⟩ (a : Nat) = false) (h : isAtB s ⟨#[39]⟩ (a : Nat) = true) : quotF s a false = ((upF s ⟨#[39]⟩ (a + 1) false).1, (upF s ⟨#[39]⟩ (a + 1) false).2.1, (upF s ⟨#[39]⟩ (a + 1) false).2.2 || hasB (upF s ⟨#[39]⟩ (a + 1) false).1 [60]) := by
  rw [quotF, h1]
  show quotG s ⟨#[39]⟩ a false = _
  rw [quotG, mustF_hit h]; rfl
/-- It takes what stands between quotes. -/
theorem quot_is (s : ByteArray) (a : Nat) : (∃ v nx, quoO s a = some (v, nx) ∧ quotF s a false = (v, nx, false)) ∨ (quoO s a = none ∧ (quotF s a false).2.2 = true) := by
  have key : ∀ qt : ByteArray, s.extract a (a + 1) = qt → (isAtB s ⟨#[34]⟩ (a : Nat) = true ∨ isAtB s ⟨#[39]⟩ (a : Nat) = true) →
      quotF s a false = ((upF s qt (a + 1) false).1, (upF s qt (a + 1) false).2.1, (upF s qt (a + 1) false).2.2 || hasB (upF s qt (a + 1) false).1 [60]) →
      (∃ v nx, quoO s a = some (v, nx) ∧ quotF s a false = (v, nx, false)) ∨ (quoO s a = none ∧ (quotF s a false).2.2 = true) := by
    intro qt hq hor hF
    unfold quoO
    rw [if_pos hor, hq]
    cases e : toO s qt (a + 1) with
    | none => exact .inr ⟨rfl, by rw [hF, upF_none e]; rfl⟩
    | some p =>
      obtain ⟨v, nx⟩ := p
      rw [upF_some e] at hF
      simp only [Bool.false_or] at hF
      rw [hF]
      simp only [Option.bind_some]
      cases hh : hasB v [60] with
      | true => exact .inr ⟨by simp, rfl⟩
      | false => exact .inl ⟨v, nx, by simp, rfl⟩
  cases h1 : isAtB s ⟨#[34]⟩ (a : Nat) with
  | true => exact key _ (at_one h1) (.inl h1) (quot_34 h1)
  | false =>
    cases h2 : isAtB s ⟨#[39]⟩ (a : Nat) with
    | true => exact key _ (at_one h2) (.inr h2) (quot_39 h1 h2)
    | false =>
      refine .inr ⟨?_, ?_⟩
      · unfold quoO
        rw [if_neg (by rw [h1, h2]; simp)]
      · rw [quotF, h1]
        show (quotG s ⟨#[39]⟩ a false).2.2 = true
        rw [quotG, mustF_miss h2, upF_bad]; rfl
theorem quot_bad (s : ByteArray) (a : Nat) : (quotF s a true).2.2 = true := by
  show (quotG s ⟨#[39]⟩ a true).2.2 = true
  rw [quotG, mustF_bad, upF_bad]; rfl
theorem quot_size {s : ByteArray} {a : Nat} {q : Bool} (ha : a ≤ s.size) : (quotF s a q).1.size ≤ s.size := upF_size (mustF_le ha)
theorem scQuoted_calls (s : ByteArray) (a g : Nat) (q : Bool) (W0 w : World) (hs : s.size ≤ 1000000000) (h : Sc w g s a q) (B : Bs W0 g w) :
    Calls Tryz.prog 116 #[.pointer (some ⟨g, 0, none⟩)] w fun e w' => e = .returned (.string (quotF s a q).1) ∧ Sc w' g s (quotF s a q).2.1 (quotF s a q).2.2 ∧ Moved g w w' := by
  have HI := Aside0.mk (scIs_calls s ⟨#[34]⟩ a g q w hs h)
  have hle := h.le
  have HB := Aside0.mk B
  have HH := Aside0.mk h
  have HM := Aside0.mk (fun qt W1 (h : Sc W1 g s a q) => scMust_calls s qt a g q W1 hs h)
  cases hr : (!q && isAtB s ⟨#[34]⟩ (a : Nat)) with
  | true =>
    rw [hr] at HI
    obtain ⟨⟨a1, q1⟩, hm⟩ : ∃ p, p = mustF s ⟨#[34]⟩ a q := ⟨_, rfl⟩
    have HM1 := Aside0.mk (fun W1 h => HM.out ⟨#[34]⟩ W1 h)
    rw [← hm] at HM1
    have hle1 : a1 ≤ s.size := by have := mustF_le (t := ⟨#[34]⟩) (q := q) hle; rw [← hm] at this; exact this
    obtain ⟨⟨v, a2, q2⟩, hu⟩ : ∃ p, p = upF s ⟨#[34]⟩ a1 q1 := ⟨_, rfl⟩
    have HU := Aside0.mk (fun W1 (h : Sc W1 g s a1 q1) hE => scUpTo_calls s ⟨#[34]⟩ a1 g q1 W1 hs (by decide) h hE)
    rw [← hu] at HU
    have hvz : v.size ≤ s.size := by have := upF_size (t := ⟨#[34]⟩) (q := q1) hle1; rw [← hu] at this; exact this
    have hfin : quotF s a q = (v, a2, q2 || hasB v [60]) := by
      rw [quotF, hr]
      show quotG s ⟨#[34]⟩ a q = _
      rw [quotG, ← hm, ← hu]
    rw [hfin]
    dsimp only at HM1 HU
    clear hm hu hfin hr h B HM
    go_enter Tryz.func116, Tryz.ntmps116
    go_wp2_with fail
    refine (HI.out).mono ?_
    rintro e w1 ⟨rfl, hb1⟩
    go_wp2_with fail
    refine (HM1.out _ (HH.out.below hb1)).mono ?_
    rintro e w2 ⟨rfl, h2, hm2⟩
    have hm2 := (Moved.of hb1 : Moved g w _).trans hm2
    go_wp2_with fail
    refine (HU.out _ h2 (HB.out.moved hm2).here).mono ?_
    rintro e w3 ⟨rfl, h3, hm3⟩
    have hm3 := hm2.trans hm3
    have HE3 := (HB.out.moved hm3).here
    obtain ⟨m, hmm⟩ := HE3.len
    have HC := Aside0.mk (Tryz.strings_Contains v ⟨#[60]⟩ m w3 (by omega) hmm)
    rw [show contains v.data.toList (⟨#[60]⟩ : ByteArray).data.toList = hasB v [60] from rfl] at HC
    clear hmm HE3 h2 hm2 hb1
    obtain ⟨c0, c1, c2, f1, f2⟩ := h3.cells
    have HM3 := Aside0.mk hm3
    cases q2 with
    | true =>
      have hn := Aside0.mk (h3.setQ true)
      have hm := Aside0.mk (hm3.set (o := 2) (u := .bool true))
      have h3 := Aside0.mk h3
      clear hm3
      go_wp2
      go_ret
      exact ⟨rfl, hn.out, hm.out⟩
    | false =>
      have hn := Aside0.mk (h3.setQ (hasB v [60]))
      have hm := Aside0.mk (hm3.set (o := 2) (u := .bool (hasB v [60])))
      have h3 := Aside0.mk h3
      clear hm3
      go_wp2_with fail
      refine (HC.out).mono ?_
      rintro e w4 ⟨rfl, rfl⟩
      go_wp2
      go_ret
      exact ⟨rfl, hn.out, hm.out⟩
  | false =>
    rw [hr] at HI
    obtain ⟨⟨a1, q1⟩, hm⟩ : ∃ p, p = mustF s ⟨#[39]⟩ a q := ⟨_, rfl⟩
    have HM1 := Aside0.mk (fun W1 h => HM.out ⟨#[39]⟩ W1 h)
    rw [← hm] at HM1
    have hle1 : a1 ≤ s.size := by have := mustF_le (t := ⟨#[39]⟩) (q := q) hle; rw [← hm] at this; exact this
    obtain ⟨⟨v, a2, q2⟩, hu⟩ : ∃ p, p = upF s ⟨#[39]⟩ a1 q1 := ⟨_, rfl⟩
    have HU := Aside0.mk (fun W1 (h : Sc W1 g s a1 q1) hE => scUpTo_calls s ⟨#[39]⟩ a1 g q1 W1 hs (by decide) h hE)
    rw [← hu] at HU
    have hvz : v.size ≤ s.size := by have := upF_size (t := ⟨#[39]⟩) (q := q1) hle1; rw [← hu] at this; exact this
    have hfin : quotF s a q = (v, a2, q2 || hasB v [60]) := by
      rw [quotF, hr]
      show quotG s ⟨#[39]⟩ a q = _
      rw [quotG, ← hm, ← hu]
    rw [hfin]
    dsimp only at HM1 HU
    clear hm hu hfin hr h B HM
    go_enter Tryz.func116, Tryz.ntmps116
    go_wp2_with fail
    refine (HI.out).mono ?_
    rintro e w1 ⟨rfl, hb1⟩
    go_wp2_with fail
    refine (HM1.out _ (HH.out.below hb1)).mono ?_
    rintro e w2 ⟨rfl, h2, hm2⟩
    have hm2 := (Moved.of hb1 : Moved g w _).trans hm2
    go_wp2_with fail
    refine (HU.out _ h2 (HB.out.moved hm2).here).mono ?_
    rintro e w3 ⟨rfl, h3, hm3⟩
    have hm3 := hm2.trans hm3
    have HE3 := (HB.out.moved hm3).here
    obtain ⟨m, hmm⟩ := HE3.len
    have HC := Aside0.mk (Tryz.strings_Contains v ⟨#[60]⟩ m w3 (by omega) hmm)
    rw [show contains v.data.toList (⟨#[60]⟩ : ByteArray).data.toList = hasB v [60] from rfl] at HC
    clear hmm HE3 h2 hm2 hb1
    obtain ⟨c0, c1, c2, f1, f2⟩ := h3.cells
    have HM3 := Aside0.mk hm3
    cases q2 with
    | true =>
      have hn := Aside0.mk (h3.setQ true)
      have hm := Aside0.mk (hm3.set (o := 2) (u := .bool true))
      have h3 := Aside0.mk h3
      clear hm3
      go_wp2
      go_ret
      exact ⟨rfl, hn.out, hm.out⟩
    | false =>
      have hn := Aside0.mk (h3.setQ (hasB v [60]))
      have hm := Aside0.mk (hm3.set (o := 2) (u := .bool (hasB v [60])))
      have h3 := Aside0.mk h3
      clear hm3
      go_wp2_with fail
      refine (HC.out).mono ?_
      rintro e w4 ⟨rfl, rfl⟩
      go_wp2
      go_ret
      exact ⟨rfl, hn.out, hm.out⟩
end Go.Proofs.YtmfkdgdamepbcaaGreatDoor
end
section
/- The program's scan: told, text. -/
namespace Go.Proofs.YtmfkdgdamepbcaaGreatDoor
open Go.RowKit Go.Lib
set_option linter.unusedVariables false
set_option linter.unusedSimpArgs false
set_option maxHeartbeats 0
set_option maxRecDepth 100000
theorem nameF_some {s n : ByteArray} {a k : Nat} (h : nameO s a = some (n, k)) : nameF s a false = (n, k, false) := by rw [nameF, h]; rfl
theorem nameF_none {s : ByteArray} {a : Nat} (h : nameO s a = none) : nameF s a false = (⟨#[]⟩, a, true) := by rw [nameF, h]; rfl
theorem nameF_bad (s : ByteArray) (a : Nat) : nameF s a true = (⟨#[]⟩, a, true) := rfl
theorem takeF_hit {s t : ByteArray} {a : Nat} (h : isAtB s t (a : Nat) = true) : takeF s t a false = (true, a + t.size) := by rw [takeF, h]; rfl
theorem takeF_miss {s t : ByteArray} {a : Nat} (h : isAtB s t (a : Nat) = false) (q : Bool) : takeF s t a q = (false, a) := by rw [takeF, h, Bool.and_false]; rfl
theorem takeF_bad (s t : ByteArray) (a : Nat) : takeF s t a true = (false, a) := rfl
theorem told_hit {s n : ByteArray} {a a1 a2 : Nat} {q1 : Bool} (hp : (n, a1, q1) = nameF s a false) (ht : (true, a2) = takeF s ⟨#[63, 62]⟩ a1 q1) : q1 = false ∧ toldO s a = some (⟨5, n, [], false, ⟨#[]⟩⟩, a2) := by
  cases e : nameO s a with
  | none =>
    rw [nameF_none e] at hp
    injection hp with h1 h2; injection h2 with h2 h3; subst h1 h2 h3
    rw [takeF_bad] at ht
    injection ht with ht _; cases ht
  | some p =>
    obtain ⟨n', k⟩ := p
    rw [nameF_some e] at hp
    injection hp with h1 h2; injection h2 with h2 h3; subst h1 h2 h3
    cases hi : isAtB s ⟨#[63, 62]⟩ (a1 : Nat) with
    | false =>
      rw [takeF_miss hi] at ht
      injection ht with ht _; cases ht
    | true =>
      rw [takeF_hit hi] at ht
      injection ht with _ ht
      subst ht
      refine ⟨rfl, ?_⟩
      rw [toldO, e]
      simp only [Option.bind_some]
      rw [if_pos hi]; rfl
theorem told_miss {s n t : ByteArray} {a a1 a2 a3 : Nat} {q1 q3 : Bool} (hp : (n, a1, q1) = nameF s a false) (ht : (false, a2) = takeF s ⟨#[63, 62]⟩ a1 q1)
    (hu : (t, a3, q3) = upF s ⟨#[63, 62]⟩ (blanksN s a2) (q1 || !decide (a2 < blanksN s a2))) : (q3 = true ∧ toldO s a = none) ∨ (q3 = false ∧ toldO s a = some (⟨5, n, [], false, t⟩, a3)) := by
  cases e : nameO s a with
  | none =>
    rw [nameF_none e] at hp
    injection hp with h1 h2; injection h2 with h2 h3; subst h1 h2 h3
    rw [Bool.true_or, upF_bad] at hu
    injection hu with h1 h2; injection h2 with h2 h3
    exact .inl ⟨h3, by rw [toldO, e]; rfl⟩
  | some p =>
    obtain ⟨n', k⟩ := p
    rw [nameF_some e] at hp
    injection hp with h1 h2; injection h2 with h2 h3; subst h1 h2 h3
    cases hi : isAtB s ⟨#[63, 62]⟩ (a1 : Nat) with
    | true =>
      rw [takeF_hit hi] at ht
      injection ht with ht _; cases ht
    | false =>
      rw [takeF_miss hi] at ht
      injection ht with _ ht
      subst ht
      rw [Bool.false_or] at hu
      have hl := blanksN_le s a2
      by_cases hb : blanksN s a2 = a2
      · rw [decide_eq_false (by omega), Bool.not_false, upF_bad] at hu
        injection hu with h1 h2; injection h2 with h2 h3
        refine .inl ⟨h3, ?_⟩
        rw [toldO, e]
        simp only [Option.bind_some]
        rw [if_neg (by rw [hi]; simp), if_pos hb]
      · rw [decide_eq_true (by omega), Bool.not_true] at hu
        cases e2 : toO s ⟨#[63, 62]⟩ (blanksN s a2) with
        | none =>
          rw [upF_none e2] at hu
          injection hu with h1 h2; injection h2 with h2 h3
          refine .inl ⟨h3, ?_⟩
          rw [toldO, e]
          simp only [Option.bind_some]
          rw [if_neg (by rw [hi]; simp), if_neg hb, e2]; rfl
        | some p =>
          obtain ⟨b, k⟩ := p
          rw [upF_some e2] at hu
          injection hu with h1 h2; injection h2 with h2 h3
          subst h1 h2
          refine .inr ⟨h3, ?_⟩
          rw [toldO, e]
          simp only [Option.bind_some]
          rw [if_neg (by rw [hi]; simp), if_neg hb, e2]; rfl
theorem scTold_calls (s : ByteArray) (a g : Nat) (W0 w : World) (hs : s.size ≤ 1000000000) (h : Sc w g s a false) (B : Bs W0 g w) :
    Calls Tryz.prog 81 #[.pointer (some ⟨g, 0, none⟩)] w (ScMk w g s (toldO s a)) := by
  have hg := h.lt
  obtain ⟨W, hW, HB0, hsz, HG⟩ := boxed w #[.int .i64 0, .string ⟨#[]⟩, .slice none 0 0, .bool false, .string ⟨#[]⟩] 29
  have HW := Aside0.mk hW
  have RG := Aside0.mk (fun W1 (hm : Moved g W W1) => (hm.block _ hsz (by omega)).trans HG)
  have HB := Aside0.mk HB0
  have hBW := B.below HB0
  have hSW := h.below HB0
  have HN := Aside0.mk (scName_calls s a g false W hs hSW hBW.here)
  have HBW := Aside0.mk hBW
  obtain ⟨⟨n, a1, q1⟩, hp⟩ : ∃ p, p = nameF s a false := ⟨_, rfl⟩
  rw [← hp] at HN
  have HTk := Aside0.mk (fun W1 (h : Sc W1 g s a1 q1) => scTake_calls s ⟨#[63, 62]⟩ a1 g q1 W1 hs h)
  obtain ⟨⟨r, a2⟩, ht⟩ : ∃ p, p = takeF s ⟨#[63, 62]⟩ a1 q1 := ⟨_, rfl⟩
  rw [← ht] at HTk
  dsimp only at HN HTk
  clear hW HG HB0 hsz h B hBW hSW
  cases r with
  | true =>
    obtain ⟨rfl, hfin⟩ := told_hit hp ht
    have hfin := Aside0.mk hfin
    clear hp ht
    go_enter Tryz.func81, Tryz.ntmps81
    go_upto_region 1 with fail
    rw [← HW.out]
    go_wp2_with fail
    refine (HN.out).mono ?_
    rintro e w1 ⟨rfl, h1, hm1⟩
    obtain ⟨W2, hW2, HB2, hsz2, HG2⟩ := boxed w1 #[.int .i64 5, .string n, .slice none 0 0, .bool false, .string ⟨#[]⟩] 29
    have hm2 := hm1.trans (Moved.of HB2)
    have h2 := h1.below HB2
    have hgm := hm1.size
    have hgl := h1.lt
    have HW2 := Aside0.mk hW2
    have HG2 := Aside0.mk HG2
    clear hW2
    go_upto_region 2 with fail
    rw [← HW2.out]
    go_wp2_with fail
    refine (HTk.out _ h2).mono ?_
    rintro e w3 ⟨rfl, h3, hm3⟩
    have HG3 := (hm3.block _ hsz2 (by omega)).trans HG2.out
    have hm3 := hm2.trans hm3
    clear h1 hm1 h2 hm2 HB2
    obtain ⟨m0, m1, m2, m3, m4, n0, n1, n2, n3, n4⟩ := cells5 HG3
    have HG3 := Aside0.mk HG3
    have hmW := Aside0.mk ((Moved.of HB.out : Moved g w W).trans hm3)
    obtain ⟨r0, r1, r2, r3, r4, f0, f1, f2, f3, f4⟩ := cells5 (RG.out _ hm3)
    go_wp2
    obtain ⟨X, hX, hXg, hXm⟩ := out5 (RG.out _ hm3) (.int .i64 5) (.string n) (.slice none 0 0) (.bool false) (.string ⟨#[]⟩)
    rw [← hX]
    clear hX r0 r1 r2 r3 r4 f0 f1 f2 f3 f4
    obtain ⟨p0, p1, p2, p3, p4, _⟩ := cells5 hXg
    refine bodyPost_ret (v := .agg #[.int .i64 5, .string n, .slice none 0 0, .bool false, .string ⟨#[]⟩]) ?hres rfl (ScMk.at hg hmW.out h3 hfin.out hXm)
    case hres => simp [results, Tryz.results81, go_sem, p0, p1, p2, p3, p4]
  | false =>
    have HGp := Aside0.mk (fun W1 (h : Sc W1 g s a2 q1) => scGap_calls s a2 g q1 W1 hs h)
    obtain ⟨q2, hq2⟩ : ∃ q2, q2 = (q1 || !decide (a2 < blanksN s a2)) := ⟨_, rfl⟩
    obtain ⟨b, hbe⟩ : ∃ b, b = blanksN s a2 := ⟨_, rfl⟩
    have HU := Aside0.mk (fun W1 (h : Sc W1 g s b q2) hE => scUpTo_calls s ⟨#[63, 62]⟩ b g q2 W1 hs (by decide) h hE)
    obtain ⟨⟨t, a3, q3⟩, hu⟩ : ∃ p, p = upF s ⟨#[63, 62]⟩ b q2 := ⟨_, rfl⟩
    rw [← hu] at HU
    rw [← hq2, ← hbe] at HGp
    dsimp only at HU
    have hfin := told_miss (t := t) (a3 := a3) (q3 := q3) hp ht (by rw [← hq2, ← hbe]; exact hu)
    clear hp ht hq2 hbe hu
    rcases hfin with ⟨rfl, hfin⟩ | ⟨rfl, hfin⟩
    · have hfin := Aside0.mk hfin
      go_enter Tryz.func81, Tryz.ntmps81
      go_upto_region 1 with fail
      rw [← HW.out]
      go_wp2_with fail
      refine (HN.out).mono ?_
      rintro e w1 ⟨rfl, h1, hm1⟩
      obtain ⟨W2, hW2, HB2, hsz2, HG2⟩ := boxed w1 #[.int .i64 5, .string n, .slice none 0 0, .bool false, .string ⟨#[]⟩] 29
      have hm2 := hm1.trans (Moved.of HB2)
      have h2 := h1.below HB2
      have hgm := hm1.size
      have hgl := h1.lt
      have HW2 := Aside0.mk hW2
      have HG2 := Aside0.mk HG2
      clear hW2
      go_upto_region 2 with fail
      rw [← HW2.out]
      go_wp2_with fail
      refine (HTk.out _ h2).mono ?_
      rintro e w3 ⟨rfl, h3, hm3⟩
      have HG3 := (hm3.block _ hsz2 (by omega)).trans HG2.out
      have hm3 := hm2.trans hm3
      clear h1 hm1 h2 hm2 HB2
      obtain ⟨m0, m1, m2, m3, m4, n0, n1, n2, n3, n4⟩ := cells5 HG3
      have HG3 := Aside0.mk HG3
      have hmW := Aside0.mk ((Moved.of HB.out : Moved g w W).trans hm3)
      have hl3 : w1.heap.size < w3.heap.size := (Array.getElem?_eq_some_iff.1 HG3.out).1
      go_wp2_with fail
      refine (HGp.out _ h3).mono ?_
      rintro e w4 ⟨rfl, h4, hm4⟩
      have HG4 := (hm4.block _ hl3 (by omega)).trans HG3.out
      have hl4 : w1.heap.size < w4.heap.size := Nat.lt_of_lt_of_le hl3 hm4.size
      have hm4 := hm3.trans hm4
      clear m0 m1 m2 m3 m4 n0 n1 n2 n3 n4 h3 hm3
      go_wp2_with fail
      refine (HU.out _ h4 (HBW.out.moved hm4).here).mono ?_
      rintro e w5 ⟨rfl, h5, hm5⟩
      have HG5 := (hm5.block _ hl4 (by omega)).trans HG4
      have hm5 := hm4.trans hm5
      obtain ⟨m0, m1, m2, m3, m4, n0, n1, n2, n3, n4⟩ := cells5 HG5
      clear HG4 h4 hm4
      go_upto_region 6 with fail
      obtain ⟨X2, hX2, HGX, hXm2⟩ := put5_4 HG5 (.string t)
      rw [← hX2]
      have h6 := h5.other hXm2 (by omega)
      have hm6 := hm5.new hXm2 hgm
      clear m0 m1 m2 m3 m4 n0 n1 n2 n3 n4 hX2 hm5 h5
      obtain ⟨m0, m1, m2, m3, m4, n0, n1, n2, n3, n4⟩ := cells5 HGX
      have hmX := Aside0.mk ((Moved.of HB.out : Moved g w W).trans hm6)
      obtain ⟨r0, r1, r2, r3, r4, f0, f1, f2, f3, f4⟩ := cells5 (RG.out _ hm6)
      go_wp2
      obtain ⟨X, hX, hXg, hXm⟩ := out5 (RG.out _ hm6) (.int .i64 5) (.string n) (.slice none 0 0) (.bool false) (.string t)
      rw [← hX]
      clear hX r0 r1 r2 r3 r4 f0 f1 f2 f3 f4
      obtain ⟨p0, p1, p2, p3, p4, _⟩ := cells5 hXg
      refine bodyPost_ret (v := .agg #[.int .i64 5, .string n, .slice none 0 0, .bool false, .string t]) ?hres rfl (ScMk.none hg hmX.out h6 hfin.out hXm)
      case hres => simp [results, Tryz.results81, go_sem, p0, p1, p2, p3, p4]
    · have hfin := Aside0.mk hfin
      go_enter Tryz.func81, Tryz.ntmps81
      go_upto_region 1 with fail
      rw [← HW.out]
      go_wp2_with fail
      refine (HN.out).mono ?_
      rintro e w1 ⟨rfl, h1, hm1⟩
      obtain ⟨W2, hW2, HB2, hsz2, HG2⟩ := boxed w1 #[.int .i64 5, .string n, .slice none 0 0, .bool false, .string ⟨#[]⟩] 29
      have hm2 := hm1.trans (Moved.of HB2)
      have h2 := h1.below HB2
      have hgm := hm1.size
      have hgl := h1.lt
      have HW2 := Aside0.mk hW2
      have HG2 := Aside0.mk HG2
      clear hW2
      go_upto_region 2 with fail
      rw [← HW2.out]
      go_wp2_with fail
      refine (HTk.out _ h2).mono ?_
      rintro e w3 ⟨rfl, h3, hm3⟩
      have HG3 := (hm3.block _ hsz2 (by omega)).trans HG2.out
      have hm3 := hm2.trans hm3
      clear h1 hm1 h2 hm2 HB2
      obtain ⟨m0, m1, m2, m3, m4, n0, n1, n2, n3, n4⟩ := cells5 HG3
      have HG3 := Aside0.mk HG3
      have hmW := Aside0.mk ((Moved.of HB.out : Moved g w W).trans hm3)
      have hl3 : w1.heap.size < w3.heap.size := (Array.getElem?_eq_some_iff.1 HG3.out).1
      go_wp2_with fail
      refine (HGp.out _ h3).mono ?_
      rintro e w4 ⟨rfl, h4, hm4⟩
      have HG4 := (hm4.block _ hl3 (by omega)).trans HG3.out
      have hl4 : w1.heap.size < w4.heap.size := Nat.lt_of_lt_of_le hl3 hm4.size
      have hm4 := hm3.trans hm4
      clear m0 m1 m2 m3 m4 n0 n1 n2 n3 n4 h3 hm3
      go_wp2_with fail
      refine (HU.out _ h4 (HBW.out.moved hm4).here).mono ?_
      rintro e w5 ⟨rfl, h5, hm5⟩
      have HG5 := (hm5.block _ hl4 (by omega)).trans HG4
      have hm5 := hm4.trans hm5
      obtain ⟨m0, m1, m2, m3, m4, n0, n1, n2, n3, n4⟩ := cells5 HG5
      clear HG4 h4 hm4
      go_upto_region 6 with fail
      obtain ⟨X2, hX2, HGX, hXm2⟩ := put5_4 HG5 (.string t)
      rw [← hX2]
      have h6 := h5.other hXm2 (by omega)
      have hm6 := hm5.new hXm2 hgm
      clear m0 m1 m2 m3 m4 n0 n1 n2 n3 n4 hX2 hm5 h5
      obtain ⟨m0, m1, m2, m3, m4, n0, n1, n2, n3, n4⟩ := cells5 HGX
      have hmX := Aside0.mk ((Moved.of HB.out : Moved g w W).trans hm6)
      obtain ⟨r0, r1, r2, r3, r4, f0, f1, f2, f3, f4⟩ := cells5 (RG.out _ hm6)
      go_wp2
      obtain ⟨X, hX, hXg, hXm⟩ := out5 (RG.out _ hm6) (.int .i64 5) (.string n) (.slice none 0 0) (.bool false) (.string t)
      rw [← hX]
      clear hX r0 r1 r2 r3 r4 f0 f1 f2 f3 f4
      obtain ⟨p0, p1, p2, p3, p4, _⟩ := cells5 hXg
      refine bodyPost_ret (v := .agg #[.int .i64 5, .string n, .slice none 0 0, .bool false, .string t]) ?hres rfl (ScMk.at hg hmX.out h6 hfin.out hXm)
      case hres => simp [results, Tryz.results81, go_sem, p0, p1, p2, p3, p4]
/-! ### text -/
theorem lt_cut (s : ByteArray) (a : Nat) (ha : a ≤ s.size) : ∃ r2 b, Lib.cut (s.extract a s.size).data.toList (⟨#[60]⟩ : ByteArray).data.toList = ((s.extract a (ltN s a)).data.toList, (r2 : ByteArray).data.toList, b) := by
  rcases first_or s 60 (s.size - a) a rfl with ⟨m, m1, m2, m3, m4⟩ | hno
  · have hidx := tail_index s 60 a m m1 m2 m3 m4
    have h := cut_tail s [60] a (m - a) hidx
    rw [show a + (m - a) = m by omega] at h
    have e : ltN s a = m := by rw [lt_first s _ a m rfl m1 (by omega) m4, ltN_stop (fun x => x.2 m3)]
    exact ⟨_, _, by rw [e]; exact h⟩
  · have e : ltN s a = s.size := by rw [lt_first s _ a s.size rfl ha (Nat.le_refl _) hno, ltN_stop (fun x => by omega)]
    exact ⟨⟨#[]⟩, false, by rw [e]; exact cut_tail_no s [60] a (by rw [tail_noindex s 60 a hno]; omega)⟩
theorem scText_calls {ok : Nat → Prop} (s : ByteArray) (a g : Nat) (A : Option Addr) (c : Nat) (l : List Dcl) (W0 w : World) (hs : s.size ≤ 1000000000) (h : Sc w g s a false) (B : Bs W0 g w) (hr : Row Kd.dcl W0 ok A l) (hz : ∀ d ∈ l, d.pre.size ≤ 1048576 ∧ d.uri.size ≤ 1048576) :
    Calls Tryz.prog 83 #[.pointer (some ⟨g, 0, none⟩), .slice A l.length c] w (ScMk w g s (textO s a l)) := by
  have hg := h.lt
  have hle := h.le
  obtain ⟨W, hW, HB0, hsz, HG⟩ := boxed w #[.int .i64 0, .string ⟨#[]⟩, .slice none 0 0, .bool false, .string ⟨#[]⟩] 29
  have HW := Aside0.mk hW
  have RG := Aside0.mk (fun W1 (hm : Moved g W W1) => (hm.block _ hsz (by omega)).trans HG)
  have HB := Aside0.mk HB0
  have hBW := B.below HB0
  have HBW := Aside0.mk hBW
  have h1 := h.below HB0
  have hll := ltN_le s a hle
  have hT0 : textO s a l = if hasB (s.extract a (ltN s a)) [93, 93, 62] = true then none else (expandV (s.extract a (ltN s a)) l).map fun x => (⟨3, ⟨#[]⟩, [], false, x⟩, ltN s a) := rfl
  obtain ⟨r2, b2, hcut⟩ := lt_cut s a hle
  have hz1 : (s.extract a s.size).size ≤ 1000000000 := by rw [ByteArray.size_extract]; omega
  have HC := Aside0.mk (fun x : Later W => Cut_calls (s.extract a s.size) ⟨#[60]⟩ x.W hz1 (hBW.here.below x.h) (s.extract a (ltN s a)) r2 b2 hcut)
  obtain ⟨k, hk⟩ : ∃ k, k = ltN s a := ⟨_, rfl⟩
  rw [← hk] at HC hll hT0
  obtain ⟨v, hv⟩ : ∃ v, v = s.extract a k := ⟨_, rfl⟩
  have hvz : v.size = k - a := by rw [hv, ByteArray.size_extract]; omega
  rw [← hv] at HC hT0
  obtain ⟨R, hR⟩ : ∃ R, R = textO s a l := ⟨_, rfl⟩
  rw [← hR] at hT0 ⊢
  obtain ⟨c0, c1, c2, _, _⟩ := h1.cells
  have C0 := later_cell c0 h1.lt
  have C1 := later_cell c1 h1.lt
  have i1 : (0 : Int) ≤ (a : Int) := by omega
  have i2 : (a : Int) ≤ (s.size : Int) := by omega
  have H1 := Aside0.mk h1
  have HRow := Aside0.mk (fun W1 (B : Bs W0 g W1) => hr.below B.hb)
  have HEx := Aside0.mk (fun q W1 (h : Sc W1 g s k q) (B : Bs W0 g W1) => scExpanded_calls s v k g q A c l W1 h (hr.below B.hb) (by omega) hz B.here)
  have hT := Aside0.mk hT0
  clear hT0
  have hvz2 : v.size ≤ 1000000000 := by omega
  have hvi : (a : Int) + (v.size : Int) = (k : Int) := by rw [hvz]; omega
  have Hvi := Aside0.mk hvi
  clear hW HG HB0 hsz h B hBW hk hv hR hcut hr hz c0 c1 c2 hvz hvi h1
  go_enter Tryz.func83, Tryz.ntmps83
  go_upto_region 1 with fail
  rw [← HW.out]
  refine wp_region_later (by kernel_rfl) (by kernel_rfl) ?_
  repeat (go_big_quiet_step ((go_at_call 112; exact later_call ((HC.out _).mono (fun _ _ h => ⟨h.1, h.2.below⟩)))))
  refine wpQuiet_nil ?_
  rintro _ ⟨⟨W1, hb1⟩, rfl⟩
  have h2 := H1.out.below hb1
  have hm2 : Moved g W _ := Moved.of hb1
  clear C0 C1
  obtain ⟨c0, c1, c2, f1, f2⟩ := h2.cells
  go_upto_region 3 with fail
  have h3 := h2.setA k hll.2
  have hm3 := hm2.set (o := 1) (u := .int .i64 (k : Nat))
  rw [Hvi.out]
  have hz2 : v.size < 4294967281 := by omega
  generalize World.setCell _ ⟨g, 1, none⟩ (.int .i64 (k : Nat)) = w3 at h3 hm3 ⊢
  obtain ⟨m, hmm⟩ := (HBW.out.moved hm3).here.len
  have HCn := Aside0.mk (Tryz.strings_Contains v ⟨#[93, 93, 62]⟩ m w3 hz2 hmm)
  rw [show contains v.data.toList (⟨#[93, 93, 62]⟩ : ByteArray).data.toList = hasB v [93, 93, 62] from rfl] at HCn
  clear hmm c0 c1 c2 f1 f2 h2 hm2 hb1
  obtain ⟨c0, c1, c2, f1, f2⟩ := h3.cells
  cases hh : hasB v [93, 93, 62] with
  | true =>
    have hfin := Aside0.mk (show R = none by rw [hT.out, if_pos hh])
    have e : ∃ y, expF v l true = (y, true) := by unfold expF expO; split <;> exact ⟨_, rfl⟩
    obtain ⟨y, e⟩ := e
    have HEx := Aside0.mk (fun W1 h B => HEx.out true W1 h B)
    rw [e] at HEx
    dsimp only at HEx
    rw [hh] at HCn
    clear e hh hT
    go_wp2_with fail
    refine (HCn.out).mono ?_
    rintro e w4 ⟨rfl, rfl⟩
    go_upto_region 4 with fail
    have h4 := h3.setQ true
    have hm4 := hm3.set (o := 2) (u := .bool true)
    generalize World.setCell _ ⟨g, 2, none⟩ (.bool true) = w5 at h4 hm4 ⊢
    clear h3 hm3 c0 c1 c2 f1 f2
    go_wp2_with fail
    refine (HEx.out _ h4 (HBW.out.moved hm4)).mono ?_
    rintro e w6 ⟨rfl, h6, hm6⟩
    have hm6 := hm4.trans hm6
    clear h4 hm4
    have hmX := Aside0.mk ((Moved.of HB.out : Moved g w W).trans hm6)
    obtain ⟨r0, r1, r2, r3, r4, f0, f1, f2, f3, f4⟩ := cells5 (RG.out _ hm6)
    go_wp2
    obtain ⟨X, hX, hXg, hXm⟩ := out5 (RG.out _ hm6) (.int .i64 3) (.string ⟨#[]⟩) (.slice none 0 0) (.bool false) (.string y)
    rw [← hX]
    clear hX r0 r1 r2 r3 r4 f0 f1 f2 f3 f4
    obtain ⟨p0, p1, p2, p3, p4, _⟩ := cells5 hXg
    refine bodyPost_ret (v := .agg #[.int .i64 3, .string ⟨#[]⟩, .slice none 0 0, .bool false, .string y]) ?hres rfl (ScMk.none hg hmX.out h6 hfin.out hXm)
    case hres => simp [results, Tryz.results83, go_sem, p0, p1, p2, p3, p4]
  | false =>
    have hT := Aside0.mk (hT.out.trans (if_neg (by rw [hh]; simp)))
    cases ex : expandV v l with
    | none =>
      have hfin := Aside0.mk (show R = none by rw [hT.out, ex]; rfl)
      have e : expF v l false = (⟨#[]⟩, true) := by rw [expF, ex]; rfl
      have HEx := Aside0.mk (fun W1 h B => HEx.out false W1 h B)
      rw [e] at HEx
      dsimp only at HEx
      rw [hh] at HCn
      clear e hh hT
      go_wp2_with fail
      refine (HCn.out).mono ?_
      rintro e w4 ⟨rfl, rfl⟩
      go_upto_region 4 with fail
      have h4 := h3.setQ false
      have hm4 := hm3.set (o := 2) (u := .bool false)
      generalize World.setCell _ ⟨g, 2, none⟩ (.bool false) = w5 at h4 hm4 ⊢
      clear h3 hm3 c0 c1 c2 f1 f2
      go_wp2_with fail
      refine (HEx.out _ h4 (HBW.out.moved hm4)).mono ?_
      rintro e w6 ⟨rfl, h6, hm6⟩
      have hm6 := hm4.trans hm6
      clear h4 hm4
      have hmX := Aside0.mk ((Moved.of HB.out : Moved g w W).trans hm6)
      obtain ⟨r0, r1, r2, r3, r4, f0, f1, f2, f3, f4⟩ := cells5 (RG.out _ hm6)
      go_wp2
      obtain ⟨X, hX, hXg, hXm⟩ := out5 (RG.out _ hm6) (.int .i64 3) (.string ⟨#[]⟩) (.slice none 0 0) (.bool false) (.string ⟨#[]⟩)
      rw [← hX]
      clear hX r0 r1 r2 r3 r4 f0 f1 f2 f3 f4
      obtain ⟨p0, p1, p2, p3, p4, _⟩ := cells5 hXg
      refine bodyPost_ret (v := .agg #[.int .i64 3, .string ⟨#[]⟩, .slice none 0 0, .bool false, .string ⟨#[]⟩]) ?hres rfl (ScMk.none hg hmX.out h6 hfin.out hXm)
      case hres => simp [results, Tryz.results83, go_sem, p0, p1, p2, p3, p4]
    | some x =>
      have hfin := Aside0.mk (show R = some (⟨3, ⟨#[]⟩, [], false, x⟩, k) by rw [hT.out, ex]; rfl)
      have e : expF v l false = (x, false) := by rw [expF, ex]; rfl
      have HEx := Aside0.mk (fun W1 h B => HEx.out false W1 h B)
      rw [e] at HEx
      dsimp only at HEx
      rw [hh] at HCn
      clear e hh hT
      go_wp2_with fail
      refine (HCn.out).mono ?_
      rintro e w4 ⟨rfl, rfl⟩
      go_upto_region 4 with fail
      have h4 := h3.setQ false
      have hm4 := hm3.set (o := 2) (u := .bool false)
      generalize World.setCell _ ⟨g, 2, none⟩ (.bool false) = w5 at h4 hm4 ⊢
      clear h3 hm3 c0 c1 c2 f1 f2
      go_wp2_with fail
      refine (HEx.out _ h4 (HBW.out.moved hm4)).mono ?_
      rintro e w6 ⟨rfl, h6, hm6⟩
      have hm6 := hm4.trans hm6
      clear h4 hm4
      have hmX := Aside0.mk ((Moved.of HB.out : Moved g w W).trans hm6)
      obtain ⟨r0, r1, r2, r3, r4, f0, f1, f2, f3, f4⟩ := cells5 (RG.out _ hm6)
      go_wp2
      obtain ⟨X, hX, hXg, hXm⟩ := out5 (RG.out _ hm6) (.int .i64 3) (.string ⟨#[]⟩) (.slice none 0 0) (.bool false) (.string x)
      rw [← hX]
      clear hX r0 r1 r2 r3 r4 f0 f1 f2 f3 f4
      obtain ⟨p0, p1, p2, p3, p4, _⟩ := cells5 hXg
      refine bodyPost_ret (v := .agg #[.int .i64 3, .string ⟨#[]⟩, .slice none 0 0, .bool false, .string x]) ?hres rfl (ScMk.at hg hmX.out h6 hfin.out hXm)
      case hres => simp [results, Tryz.results83, go_sem, p0, p1, p2, p3, p4]
end Go.Proofs.YtmfkdgdamepbcaaGreatDoor
end
