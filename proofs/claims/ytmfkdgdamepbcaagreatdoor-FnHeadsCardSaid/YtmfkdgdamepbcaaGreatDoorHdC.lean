/- Joined: Rd, NoteS, HdS, ScHP, LsP. -/
import Derived.Test.YtmfkdgdamepbcaaGreatDoorRefA
import Derived.Test.YtmfkdgdamepbcaaGreatDoorMkB
import Derived.Test.YtmfkdgdamepbcaaGreatDoorBase
import Derived.Test.YtmfkdgdamepbcaaGreatDoorHas
import Derived.Test.YtmfkdgdamepbcaaGreatDoorHdA
import Derived.Test.YtmfkdgdamepbcaaGreatDoorTextOk
import Derived.Test.YtmfkdgdamepbcaaGreatDoorOne
import Derived.Test.YtmfkdgdamepbcaaGreatDoorExp
import Derived.StillTailTactics
import Derived.Deep.DeepCutAuto
import Derived.Deep.CutBlock
import Derived.Deep.RegionWith
import Derived.RegionTactic
import Derived.Test.YtmfkdgdamepbcaaGreatDoorScB
section
/- The reference's reader of heads: l7Must, l7Is, l7Blanks, l7Name, l7Value. -/
namespace Go.Proofs.YtmfkdgdamepbcaaGreatDoor
open Go.RowKit Go.Lib
set_option linter.unusedVariables false
set_option linter.unusedSimpArgs false
set_option maxHeartbeats 4000000
set_option maxRecDepth 100000
/-- Block g holds a reader: the text, the place (any number where it is bad), whether it is bad. -/
structure Rd (w : World) (g : Nat) (s : ByteArray) (a : Int) (q : Bool) : Prop where
  heap : w.heap[g]? = some (.cells #[.string s, .int .i64 a, .bool q] 95 (0, 0))
  lo : -9223372036854775808 ≤ a
  hi : a ≤ 9223372036854775807
  fit : q = false → 0 ≤ a ∧ a ≤ s.size
section
variable {w w1 : World} {g : Nat} {a : Int} {s : ByteArray} {q : Bool}
theorem Rd.lt (h : Rd w g s a q) : g < w.heap.size := (Array.getElem?_eq_some_iff.1 h.heap).1
theorem Rd.cells (h : Rd w g s a q) : w.cell? ⟨g, 0, none⟩ = some (.string s) ∧ w.cell? ⟨g, 1, none⟩ = some (.int .i64 a) ∧ w.cell? ⟨g, 2, none⟩ = some (.bool q) ∧ w.frozen? ⟨g, 1, none⟩ = false ∧ w.frozen? ⟨g, 2, none⟩ = false :=
  ⟨cell_of_row w g 0 _ _ _ h.heap, cell_of_row w g 1 _ _ _ h.heap, cell_of_row w g 2 _ _ _ h.heap, frozen_of_row w g 1 _ _ h.heap, frozen_of_row w g 2 _ _ h.heap⟩
theorem Rd.below (h : Rd w g s a q) (hb : Below w.heap.size w w1) : Rd w1 g s a q := ⟨(hb.block g h.lt).trans h.heap, h.lo, h.hi, h.fit⟩
theorem Rd.setA (h : Rd w g s a q) (b : Int) (h0 : -9223372036854775808 ≤ b) (h1 : b ≤ 9223372036854775807) (hf : q = false → 0 ≤ b ∧ b ≤ s.size) : Rd (w.setCell ⟨g, 1, none⟩ (.int .i64 b)) g s b q := ⟨heap_setCell_same w g 1 _ _ _ h.heap, h0, h1, hf⟩
theorem Rd.setT (h : Rd w g s a q) : Rd (w.setCell ⟨g, 2, none⟩ (.bool true)) g s a true := ⟨heap_setCell_same w g 2 _ _ _ h.heap, h.lo, h.hi, fun e => by cases e⟩
theorem Rd.other {g2 : Nat} (h : Rd w g s a q) (hm : Moved g2 w w1) (hne : g ≠ g2) : Rd w1 g s a q := ⟨(hm.block g h.lt hne).trans h.heap, h.lo, h.hi, h.fit⟩
end
theorem l7Must_calls (s : ByteArray) (a : Int) (q b : Bool) (g : Nat) (w : World) (h : Rd w g s a q) :
    Calls Tryz.prog 62 #[.pointer (some ⟨g, 0, none⟩), .bool b] w fun e w' => e = .returned (.tuple #[]) ∧ Rd w' g s a (q || !b) ∧ Moved g w w' := by
  obtain ⟨c0, c1, c2, f1, f2⟩ := h.cells
  have HT := Aside0.mk h.setT
  have HR := Aside0.mk h
  clear h
  go_enter Tryz.func62, Tryz.ntmps62
  cases b with
  | true =>
    go_wp2
    go_end0
    exact ⟨rfl, by rw [show (q || !true) = q by cases q <;> rfl]; exact HR.out, Moved.refl _ _⟩
  | false =>
    go_wp2
    go_end0
    exact ⟨rfl, by rw [show (q || !false) = true by cases q <;> rfl]; exact HT.out, (Moved.refl g w).set⟩
theorem l7Is_calls (s t : ByteArray) (a : Int) (q : Bool) (g : Nat) (w : World) (hs : s.size ≤ 1000000000) (ht : t.size ≤ 1000) (h : Rd w g s a q) :
    Calls Tryz.prog 63 #[.pointer (some ⟨g, 0, none⟩), .string t] w fun e w' => e = .returned (.bool (!q && isAtB s t a)) ∧ Rd w' g s (if (!q && isAtB s t a) = true then a + t.size else a) q ∧ Moved g w w' := by
  obtain ⟨c0, c1, c2, f1, f2⟩ := h.cells
  have C0 := later_cell c0 h.lt
  have C1 := later_cell c1 h.lt
  have C2 := later_cell c2 h.lt
  have hlo := h.lo
  have hhi := h.hi
  have hroom : isAtB s t a = true → 0 ≤ a ∧ a + t.size ≤ s.size := by
    intro e
    rw [isAtB, Bool.and_eq_true, Bool.and_eq_true, decide_eq_true_eq, decide_eq_true_eq] at e
    exact ⟨e.1, e.2.1⟩
  have HI := Aside0.mk (fun W => l6Is_calls s t a W hs (by omega) hhi hlo)
  have HR := Aside0.mk h
  obtain ⟨r, hr⟩ : ∃ r, r = isAtB s t a := ⟨_, rfl⟩
  rw [← hr] at HI hroom ⊢
  clear hr c0 c1 c2 f1 f2 h
  cases q with
  | true =>
    go_enter Tryz.func63, Tryz.ntmps63
    go_upto_region 1 with fail
    refine wp_region_later (by kernel_rfl) (by kernel_rfl) ?_
    repeat (go_big_quiet_step (fail))
    refine wpQuiet_nil ?_
    rintro _ ⟨⟨W1, hb1⟩, rfl⟩
    go_wp2
    go_ret
    exact ⟨rfl, HR.out.below hb1, Moved.of hb1⟩
  | false =>
    go_enter Tryz.func63, Tryz.ntmps63
    go_upto_region 1 with fail
    refine wp_region_later (by kernel_rfl) (by kernel_rfl) ?_
    repeat (go_big_quiet_step ((go_at_call 86; exact later_call ((HI.out _).mono (fun _ _ h => ⟨h.1, by rw [h.2]; exact Below.refl _ _⟩)))))
    refine wpQuiet_nil ?_
    rintro _ ⟨⟨W1, hb1⟩, rfl⟩
    clear C0 C1 C2
    have h1 := HR.out.below hb1
    obtain ⟨c0, c1, c2, f1, f2⟩ := h1.cells
    cases r with
    | false =>
      go_wp2
      go_ret
      exact ⟨rfl, h1, Moved.of hb1⟩
    | true =>
      have hq := hroom rfl
      have hn := Aside0.mk (h1.setA (a + t.size) (by omega) (by omega) (fun _ => ⟨by omega, hq.2⟩))
      have hm := Aside0.mk (((Moved.of hb1 : Moved g w _)).set (o := 1) (u := .int .i64 (a + (t.size : Int))))
      have h1 := Aside0.mk h1
      have i1 : a + (t.size : Int) ≤ 9223372036854775807 := by omega
      clear hroom
      go_wp2
      go_ret
      exact ⟨rfl, hn.out, hm.out⟩
theorem blanksI_hi {s : ByteArray} {a : Int} (hs : s.size ≤ 1000000000) (h0 : -9223372036854775808 ≤ a) (h1 : a ≤ 9223372036854775807) : a ≤ blanksI s a ∧ blanksI s a ≤ 9223372036854775807 ∧ 0 ≤ blanksI s a - a ∧ blanksI s a - a ≤ 1000000000 ∧ (0 ≤ a ∧ a ≤ s.size → 0 ≤ blanksI s a ∧ blanksI s a ≤ s.size) := by
  unfold blanksI
  split
  · omega
  · have h2 := blanksN_le s a.toNat
    by_cases h3 : a.toNat ≤ s.size
    · have := h2.2 h3
      omega
    · have e : blanksN s a.toNat = a.toNat := blanksN_stop (fun h => h3 (by omega))
      omega
theorem l7Blanks_calls (s : ByteArray) (a least : Int) (q : Bool) (g : Nat) (w : World) (hs : s.size ≤ 1000000000) (h : Rd w g s a q) (hl0 : 0 ≤ least) (hl1 : least ≤ 1) :
    Calls Tryz.prog 64 #[.pointer (some ⟨g, 0, none⟩), .int .i64 least] w fun e w' => e = .returned (.tuple #[]) ∧ Rd w' g s (blanksI s a) (q || !decide (least ≤ blanksI s a - a)) ∧ Moved g w w' := by
  obtain ⟨c0, c1, c2, f1, f2⟩ := h.cells
  have C0 := later_cell c0 h.lt
  have C1 := later_cell c1 h.lt
  have hbd := blanksI_hi hs h.lo h.hi
  have hlo := h.lo
  have hhi := h.hi
  have HB := Aside0.mk (fun W => specBlanks_calls s a W hs hhi)
  have HR := Aside0.mk h
  obtain ⟨k, hk⟩ : ∃ k, k = blanksI s a := ⟨_, rfl⟩
  rw [← hk] at HB hbd ⊢
  clear hk c0 c1 c2 f1 f2
  obtain ⟨b, hbb⟩ : ∃ b, b = decide (least ≤ k - a) := ⟨_, rfl⟩
  rw [← hbb]
  go_enter Tryz.func64, Tryz.ntmps64
  go_upto_region 0 with fail
  refine wp_region_later (by kernel_rfl) (by kernel_rfl) ?_
  repeat (go_big_quiet_step ((go_at_call 14; exact later_call ((HB.out _).mono (fun _ _ h => ⟨h.1, by rw [h.2]; exact Below.refl _ _⟩)))))
  refine wpQuiet_nil ?_
  rintro _ ⟨⟨W1, hb1⟩, rfl⟩
  clear C0 C1
  have h1 := HR.out.below hb1
  obtain ⟨c0, c1, c2, f1, f2⟩ := h1.cells
  have i1 : IntKind.i64.wrap (k - a) = k - a := by rw [IntKind.wrap_i64]; omega
  have HM := Aside0.mk (l7Must_calls s a q b g _ h1)
  rw [hbb] at HM
  have hb9 := Aside0.mk hbb
  have HBD := Aside0.mk hbd
  have HM1 := Aside0.mk hb1
  clear hbd hbb h hb1
  go_wp2_with fail
  refine (HM.out).mono ?_
  rintro e w2 ⟨rfl, h2, hm2⟩
  obtain ⟨c0, c1, c2, f1, f2⟩ := h2.cells
  rw [← hb9.out] at h2
  have hn := Aside0.mk (h2.setA k (by have := HBD.out; omega) HBD.out.2.1 (fun e => HBD.out.2.2.2.2 (HR.out.fit (by cases q <;> simp_all))))
  have hm := Aside0.mk (((Moved.of HM1.out : Moved g w _).trans hm2).set (o := 1) (u := .int .i64 k))
  clear h2 hm2 h1
  go_wp2
  go_end0
  exact ⟨rfl, hn.out, hm.out⟩
theorem l7NameAt_out (s : ByteArray) (a : Int) (w : World) (hs : s.size ≤ 1000000000) (ha : ¬ (0 ≤ a ∧ a ≤ s.size)) :
    Calls Tryz.prog 122 #[.string s, .int .i64 a] w fun e w' => e = .returned (.tuple #[.string ⟨#[]⟩, .int .i64 a]) ∧ Below w.heap.size w w' := by
  go_enter Tryz.func122, Tryz.ntmps122
  by_cases h0 : a < 0
  · go_wp2
    go_ret2
    exact ⟨rfl, Below.refl _ _⟩
  · have h1 : (s.size : Int) < a := by omega
    go_wp2
    go_ret2
    exact ⟨rfl, Below.refl _ _⟩
/-- A name at any place. -/
def nameI (s : ByteArray) (a : Int) : Option (ByteArray × Nat) := if 0 ≤ a ∧ a ≤ s.size then nameO s a.toNat else none
theorem l6NameI_calls (s : ByteArray) (a : Int) (w : World) (hs : s.size ≤ 1000000000) :
    Calls Tryz.prog 89 #[.string s, .int .i64 a] w fun e w' => e = .returned (tnV (nameI s a)) ∧ Below w.heap.size w w' := by
  by_cases ha : 0 ≤ a ∧ a ≤ s.size
  · obtain ⟨n, rfl⟩ : ∃ n : Nat, a = n := ⟨a.toNat, by omega⟩
    rw [nameI, if_pos ha, Int.toNat_natCast]
    exact l6Name_calls s n w hs (by omega)
  · have hfin := Aside0.mk (show tnV (nameI s a) = .tuple #[.string ⟨#[]⟩, .int .i64 (-1)] by rw [nameI, if_neg ha]; rfl)
    have HN := Aside0.mk (l7NameAt_out s a w hs ha)
    have HS := Aside0.mk (fun W => specSplitName_calls ⟨#[]⟩ W (by decide))
    rw [split_nil] at HS
    go_enter Tryz.func89, Tryz.ntmps89
    go_wp2_with fail
    refine (HN.out).mono ?_
    rintro e w1 ⟨rfl, hb1⟩
    go_wp2_with fail
    refine (HS.out _).mono ?_
    rintro e w2 ⟨rfl, hb2⟩
    simp only [snV]
    go_wp2
    go_ret2
    exact ⟨by rw [hfin.out]; rfl, below_then hb1 hb2⟩
theorem nameI_next {s n : ByteArray} {a : Int} {k : Nat} (h : nameI s a = some (n, k)) : a < k ∧ k ≤ s.size ∧ n.size ≤ s.size := by
  unfold nameI at h
  split at h
  · have := nameO_next (by omega) h
    omega
  · cases h
theorem l7Name_ok (s n : ByteArray) (a : Int) (k g : Nat) (w : World) (hs : s.size ≤ 1000000000) (h : Rd w g s a false) (hn : nameI s a = some (n, k)) :
    Calls Tryz.prog 65 #[.pointer (some ⟨g, 0, none⟩)] w fun e w' => e = .returned (.string n) ∧ Rd w' g s (k : Nat) false ∧ Moved g w w' := by
  obtain ⟨c0, c1, c2, f1, f2⟩ := h.cells
  have C0 := later_cell c0 h.lt
  have C1 := later_cell c1 h.lt
  have HN := Aside0.mk (fun W => l6NameI_calls s a W hs)
  rw [hn] at HN
  have hk := Aside0.mk (nameI_next hn)
  have HR := Aside0.mk h
  have k0 : (0 : Int) ≤ (k : Int) := by omega
  clear hn c0 c1 c2 f1 f2 h
  simp only [tnV] at HN
  go_enter Tryz.func65, Tryz.ntmps65
  go_upto_region 1 with fail
  refine wp_region_later (by kernel_rfl) (by kernel_rfl) ?_
  repeat (go_big_quiet_step ((go_at_call 89; exact later_call (HN.out _))))
  refine wpQuiet_nil ?_
  rintro _ ⟨⟨W1, hb1⟩, rfl⟩
  clear C0 C1
  have h1 := HR.out.below hb1
  have HM := Aside0.mk (l7Must_calls s a false true g _ h1)
  have hb1 := Aside0.mk hb1
  clear h1
  go_wp2_with fail
  refine (HM.out).mono ?_
  rintro e w2 ⟨rfl, h2, hm2⟩
  rw [show (false || !true) = false from rfl] at h2
  obtain ⟨c0, c1, c2, f1, f2⟩ := h2.cells
  have hn := Aside0.mk (h2.setA (k : Nat) (by omega) (by have := hk.out; omega) (fun e => by have := hk.out; omega))
  have hm := Aside0.mk (((Moved.of hb1.out : Moved g w _).trans hm2).set (o := 1) (u := .int .i64 (k : Nat)))
  clear h2 hm2
  go_wp2
  go_ret
  exact ⟨rfl, hn.out, hm.out⟩
theorem l7Name_bad (s : ByteArray) (a : Int) (q : Bool) (g : Nat) (w : World) (hs : s.size ≤ 1000000000) (h : Rd w g s a q) (hn : q = true ∨ nameI s a = none) :
    Calls Tryz.prog 65 #[.pointer (some ⟨g, 0, none⟩)] w fun e w' => e = .returned (.string ⟨#[]⟩) ∧ Rd w' g s a true ∧ Moved g w w' := by
  obtain ⟨c0, c1, c2, f1, f2⟩ := h.cells
  have C0 := later_cell c0 h.lt
  have C1 := later_cell c1 h.lt
  have HN := Aside0.mk (fun W => l6NameI_calls s a W hs)
  have HR := Aside0.mk h
  clear c0 c1 c2 f1 f2 h
  cases e : nameI s a with
  | none =>
    rw [e] at HN hn
    clear e
    simp only [tnV] at HN
    go_enter Tryz.func65, Tryz.ntmps65
    go_upto_region 1 with fail
    refine wp_region_later (by kernel_rfl) (by kernel_rfl) ?_
    repeat (go_big_quiet_step ((go_at_call 89; exact later_call (HN.out _))))
    refine wpQuiet_nil ?_
    rintro _ ⟨⟨W1, hb1⟩, rfl⟩
    clear C0 C1
    have h1 := HR.out.below hb1
    have HM := Aside0.mk (l7Must_calls s a q false g _ h1)
    have hb1 := Aside0.mk hb1
    clear h1
    go_wp2_with fail
    refine (HM.out).mono ?_
    rintro e w2 ⟨rfl, h2, hm2⟩
    rw [show (q || !false) = true by rcases hn with hn | hn <;> simp_all] at h2
    obtain ⟨c0, c1, c2, f1, f2⟩ := h2.cells
    have hm := Aside0.mk ((Moved.of hb1.out : Moved g w _).trans hm2)
    have h2 := Aside0.mk h2
    clear hm2
    go_wp2
    go_ret
    exact ⟨rfl, h2.out, hm.out⟩
  | some p =>
    obtain ⟨n, k⟩ := p
    rw [e] at HN hn
    have k0 : (0 : Int) ≤ (k : Int) := by omega
    clear e
    simp only [tnV] at HN
    go_enter Tryz.func65, Tryz.ntmps65
    go_upto_region 1 with fail
    refine wp_region_later (by kernel_rfl) (by kernel_rfl) ?_
    repeat (go_big_quiet_step ((go_at_call 89; exact later_call (HN.out _))))
    refine wpQuiet_nil ?_
    rintro _ ⟨⟨W1, hb1⟩, rfl⟩
    clear C0 C1
    have h1 := HR.out.below hb1
    have HM := Aside0.mk (l7Must_calls s a q true g _ h1)
    have hb1 := Aside0.mk hb1
    clear h1
    go_wp2_with fail
    refine (HM.out).mono ?_
    rintro e w2 ⟨rfl, h2, hm2⟩
    rw [show (q || !true) = true by rcases hn with hn | hn <;> simp_all] at h2
    obtain ⟨c0, c1, c2, f1, f2⟩ := h2.cells
    have hm := Aside0.mk ((Moved.of hb1.out : Moved g w _).trans hm2)
    have h2 := Aside0.mk h2
    clear hm2
    go_wp2
    go_ret
    exact ⟨rfl, h2.out, hm.out⟩
/-- What comes of a value in quotes. -/
def VaOut (w : World) (g : Nat) (s : ByteArray) (o : Option (ByteArray × Nat)) (e : Ending) (w' : World) : Prop :=
  ∃ (v : ByteArray) (b : Int) (q : Bool), e = .returned (.string v) ∧ v.size ≤ s.size ∧ Rd w' g s b q ∧ Moved g w w' ∧ (∀ v' k, o = some (v', k) → v = v' ∧ b = (k : Nat) ∧ q = false) ∧ (o = none → q = true)
theorem l7Value_calls (s : ByteArray) (a : Int) (q : Bool) (g : Nat) (w : World) (hs : s.size ≤ 1000000000) (h : Rd w g s a q) :
    Calls Tryz.prog 105 #[.pointer (some ⟨g, 0, none⟩)] w (VaOut w g s (if q = true then none else quoO s a.toNat)) := by
  obtain ⟨c0, c1, c2, f1, f2⟩ := h.cells
  have C0 := later_cell c0 h.lt
  have C1 := later_cell c1 h.lt
  have C2 := later_cell c2 h.lt
  have HR := Aside0.mk h
  have hfit := h.fit
  clear c0 c1 c2 f1 f2 h
  cases q with
  | true =>
    have hO := Aside0.mk (show (if true = true then none else quoO s a.toNat) = none from rfl)
    go_enter Tryz.func105, Tryz.ntmps105
    go_upto_region 1 with fail
    refine wp_region_later (by kernel_rfl) (by kernel_rfl) ?_
    repeat (go_big_quiet_step (fail))
    refine wpQuiet_nil ?_
    rintro _ ⟨⟨W1, hb1⟩, rfl⟩
    clear C0 C1 C2
    have h1 := HR.out.below hb1
    obtain ⟨c0, c1, c2, f1, f2⟩ := h1.cells
    have hn := Aside0.mk h1.setT
    have hm := Aside0.mk ((Moved.of hb1 : Moved g w _).set (o := 2) (u := .bool true))
    clear h1 hb1
    go_wp2
    go_ret
    exact ⟨_, _, _, rfl, Nat.zero_le _, hn.out, hm.out, (fun v' k e => by first | (rw [hO.out] at e; cases e) | cases e), fun _ => rfl⟩
  | false =>
  have ha := hfit rfl
  obtain ⟨k, rfl⟩ : ∃ k : Nat, a = k := ⟨a.toNat, by omega⟩
  rw [if_neg (by decide), Int.toNat_natCast]
  clear hfit
  obtain ⟨ev, hev⟩ : ∃ ev : ByteArray → Bool, ev = fun t => isAtB s t (k : Nat) := ⟨_, rfl⟩
  have HI := Aside0.mk (fun W (t : ByteArray) (ht : t.size ≤ 1000) => show Calls Tryz.prog 86 #[.string s, .int .i64 ((k : Nat) : Int), .string t] W fun e w' => e = .returned (.bool (ev t)) ∧ Below W.heap.size W w' from
    (l6Is_calls s t (k : Nat) W hs (by omega) (by omega) (by omega)).mono (fun _ _ h => ⟨by rw [hev]; exact h.1, by rw [h.2]; exact Below.refl _ _⟩))
  have hv34 := Aside0.mk (show ev ⟨#[34]⟩ = isAtB s ⟨#[34]⟩ (k : Nat) by rw [hev])
  have hv39 := Aside0.mk (show ev ⟨#[39]⟩ = isAtB s ⟨#[39]⟩ (k : Nat) by rw [hev])
  clear hev
  by_cases hq : ev ⟨#[34]⟩ = false ∧ ev ⟨#[39]⟩ = false
  · obtain ⟨q1, q2⟩ := hq
    have hO := Aside0.mk (show quoO s k = none by rw [quoO, if_neg (by rw [← hv34.out, ← hv39.out, q1, q2]; decide)])
    go_enter Tryz.func105, Tryz.ntmps105
    go_upto_region 1 with fail
    refine wp_region_later (by kernel_rfl) (by kernel_rfl) ?_
    repeat (go_big_quiet_step ((go_at_call 86; exact later_call (HI.out _ _ (by decide)))))
    refine wpQuiet_nil ?_
    rintro _ ⟨⟨W1, hb1⟩, rfl⟩
    clear C0 C1 C2
    have h1 := HR.out.below hb1
    obtain ⟨c0, c1, c2, f1, f2⟩ := h1.cells
    have hn := Aside0.mk h1.setT
    have hm := Aside0.mk ((Moved.of hb1 : Moved g w _).set (o := 2) (u := .bool true))
    clear h1 hb1
    go_wp2
    go_ret
    exact ⟨_, _, _, rfl, Nat.zero_le _, hn.out, hm.out, (fun v' k e => by first | (rw [hO.out] at e; cases e) | cases e), fun _ => rfl⟩
  have hor : isAtB s ⟨#[34]⟩ (k : Nat) = true ∨ isAtB s ⟨#[39]⟩ (k : Nat) = true := by
    rw [← hv34.out, ← hv39.out]
    cases e1 : ev ⟨#[34]⟩ <;> cases e2 : ev ⟨#[39]⟩ <;> simp_all
  have hroom : k + 1 ≤ s.size := by rcases hor with h | h <;> exact isAt_room h
  have hQ := Aside0.mk (show quoO s k = (toO s (s.extract k (k + 1)) (k + 1)).bind fun q => if hasB q.1 [60] = true then none else some q by rw [quoO, if_pos hor])
  have hqz : (s.extract k (k + 1)).size = 1 := by rw [ByteArray.size_extract]; omega
  have HTo := Aside0.mk (fun W => l6To_calls s (s.extract k (k + 1)) (k + 1) W hs hroom (by omega) (by omega))
  have hnx := fun b p => toO_next (s := s) (t := s.extract k (k + 1)) (a := k + 1) (b := b) (k := p) hroom
  rw [toV_is, show ((k + 1 : Nat) : Int) = (k : Int) + 1 by omega] at HTo
  obtain ⟨O, hO⟩ : ∃ O, O = toO s (s.extract k (k + 1)) (k + 1) := ⟨_, rfl⟩
  rw [← hO] at HTo hQ hnx
  have i1 : IntKind.i64.wrap ((k : Int) + 1) = (k : Int) + 1 := by rw [IntKind.wrap_i64]; omega
  have i2 : (0 : Int) ≤ (k : Int) + 1 := by omega
  have i3 : (k : Int) + 1 ≤ (s.size : Int) := by omega
  have i4 : ((k : Int) + 1).toNat = k + 1 := by omega
  have i5 : (k : Int) ≤ (k : Int) + 1 := by omega
  have hQ : quoO s k = O.bind fun q => if hasB q.1 [60] = true then none else some q := hQ.out
  clear hor hO hqz hroom
  have hq2 : ev ⟨#[34]⟩ = false → ev ⟨#[39]⟩ = true := fun q1 => by cases e : ev ⟨#[39]⟩ with | true => rfl | false => exact absurd ⟨q1, e⟩ hq
  clear hq
  cases O with
  | none =>
    simp only [tnV] at HTo
    clear hnx
    cases q1 : ev ⟨#[34]⟩ with
    | true =>
      go_enter Tryz.func105, Tryz.ntmps105
      go_upto_region 1 with fail
      refine wp_region_later (by kernel_rfl) (by kernel_rfl) ?_
      repeat (go_big_quiet_step ((go_at_call 86; exact later_call (HI.out _ _ (by decide)))))
      refine wpQuiet_nil ?_
      rintro _ ⟨⟨W1, hb1⟩, rfl⟩
      clear C0 C1 C2
      have h1 := Aside0.mk (HR.out.below hb1)
      have hm1 := Aside0.mk (Moved.of hb1 : Moved g w _)
      obtain ⟨c0, c1, c2, f1, f2⟩ := h1.out.cells
      have C0 := later_cell c0 h1.out.lt
      have C1 := later_cell c1 h1.out.lt
      clear c0 c1 c2 f1 f2 hb1
      go_upto_region 4 with fail
      refine wp_region_later (by kernel_rfl) (by kernel_rfl) ?_
      repeat (go_big_quiet_step ((go_at_call 87; exact later_call ((HTo.out _).mono (fun _ _ h => ⟨h.1, by rw [h.2]; exact Below.refl _ _⟩)))))
      refine wpQuiet_nil ?_
      rintro _ ⟨⟨W4, hb4⟩, rfl⟩
      clear C0 C1
      have h4 := Aside0.mk (h1.out.below hb4)
      have hm4 := Aside0.mk (hm1.out.trans (Moved.of hb4))
      clear hb4
      have HM := Aside0.mk (l7Must_calls s (k : Nat) false false g _ h4.out)
      go_wp2_with fail
      refine (HM.out).mono ?_
      rintro e w5 ⟨rfl, h5, hm5⟩
      rw [show (false || !false) = true from rfl] at h5
      obtain ⟨c0, c1, c2, f1, f2⟩ := h5.cells
      have hn := Aside0.mk (h5.setA (-1) (by omega) (by omega) (fun e => by (cases e)))
      have hm := Aside0.mk ((hm4.out.trans hm5).set (o := 1) (u := .int .i64 (-1)))
      clear h5 hm5
      go_wp2
      go_ret
      exact ⟨⟨#[]⟩, (-1), true, rfl, (Nat.zero_le _), hn.out, hm.out, (fun v' k' e => by rw [hQ] at e; cases e), (fun _ => rfl)⟩
    | false =>
      have q2 := hq2 q1
      go_enter Tryz.func105, Tryz.ntmps105
      go_upto_region 1 with fail
      refine wp_region_later (by kernel_rfl) (by kernel_rfl) ?_
      repeat (go_big_quiet_step ((go_at_call 86; exact later_call (HI.out _ _ (by decide)))))
      refine wpQuiet_nil ?_
      rintro _ ⟨⟨W1, hb1⟩, rfl⟩
      clear C0 C1 C2
      have h1 := Aside0.mk (HR.out.below hb1)
      have hm1 := Aside0.mk (Moved.of hb1 : Moved g w _)
      obtain ⟨c0, c1, c2, f1, f2⟩ := h1.out.cells
      have C0 := later_cell c0 h1.out.lt
      have C1 := later_cell c1 h1.out.lt
      clear c0 c1 c2 f1 f2 hb1
      go_upto_region 4 with fail
      refine wp_region_later (by kernel_rfl) (by kernel_rfl) ?_
      repeat (go_big_quiet_step ((go_at_call 87; exact later_call ((HTo.out _).mono (fun _ _ h => ⟨h.1, by rw [h.2]; exact Below.refl _ _⟩)))))
      refine wpQuiet_nil ?_
      rintro _ ⟨⟨W4, hb4⟩, rfl⟩
      clear C0 C1
      have h4 := Aside0.mk (h1.out.below hb4)
      have hm4 := Aside0.mk (hm1.out.trans (Moved.of hb4))
      clear hb4
      have HM := Aside0.mk (l7Must_calls s (k : Nat) false false g _ h4.out)
      go_wp2_with fail
      refine (HM.out).mono ?_
      rintro e w5 ⟨rfl, h5, hm5⟩
      rw [show (false || !false) = true from rfl] at h5
      obtain ⟨c0, c1, c2, f1, f2⟩ := h5.cells
      have hn := Aside0.mk (h5.setA (-1) (by omega) (by omega) (fun e => by (cases e)))
      have hm := Aside0.mk ((hm4.out.trans hm5).set (o := 1) (u := .int .i64 (-1)))
      clear h5 hm5
      go_wp2
      go_ret
      exact ⟨⟨#[]⟩, (-1), true, rfl, (Nat.zero_le _), hn.out, hm.out, (fun v' k' e => by rw [hQ] at e; cases e), (fun _ => rfl)⟩
  | some p =>
    obtain ⟨v, k2⟩ := p
    have hp := hnx v k2 rfl
    have hvs : v.size ≤ 1000000000 := by omega
    have HH := Aside0.mk (fun W => l5Has_calls v ⟨#[60]⟩ W hvs (by decide) (by decide))
    have k20 : (0 : Int) ≤ (k2 : Int) := by omega
    simp only [tnV] at HTo
    obtain ⟨r, hr⟩ : ∃ r, r = hasB v [60] := ⟨_, rfl⟩
    rw [show (hasB v (⟨#[60]⟩ : ByteArray).data.toList) = r from hr.symm] at HH
    have hQ2 := Aside0.mk (show quoO s k = if r = true then none else some (v, k2) by rw [hQ, hr]; rfl)
    clear hr hQ hnx
    cases q1 : ev ⟨#[34]⟩ with
    | true =>
      go_enter Tryz.func105, Tryz.ntmps105
      go_upto_region 1 with fail
      refine wp_region_later (by kernel_rfl) (by kernel_rfl) ?_
      repeat (go_big_quiet_step ((go_at_call 86; exact later_call (HI.out _ _ (by decide)))))
      refine wpQuiet_nil ?_
      rintro _ ⟨⟨W1, hb1⟩, rfl⟩
      clear C0 C1 C2
      have h1 := Aside0.mk (HR.out.below hb1)
      have hm1 := Aside0.mk (Moved.of hb1 : Moved g w _)
      obtain ⟨c0, c1, c2, f1, f2⟩ := h1.out.cells
      have C0 := later_cell c0 h1.out.lt
      have C1 := later_cell c1 h1.out.lt
      clear c0 c1 c2 f1 f2 hb1
      go_upto_region 4 with fail
      refine wp_region_later (by kernel_rfl) (by kernel_rfl) ?_
      repeat (go_big_quiet_step ((go_at_call 87; exact later_call ((HTo.out _).mono (fun _ _ h => ⟨h.1, by rw [h.2]; exact Below.refl _ _⟩)))))
      refine wpQuiet_nil ?_
      rintro _ ⟨⟨W4, hb4⟩, rfl⟩
      clear C0 C1
      have h4 := Aside0.mk (h1.out.below hb4)
      have hm4 := Aside0.mk (hm1.out.trans (Moved.of hb4))
      clear hb4
      go_wp2_with fail
      refine (HH.out _).mono ?_
      rintro e w9 ⟨rfl, rfl⟩
      clear HH
      cases r with
      | true =>
        have HM := Aside0.mk (l7Must_calls s (k : Nat) false false g _ h4.out)
        go_wp2_with fail
        refine (HM.out).mono ?_
        rintro e w5 ⟨rfl, h5, hm5⟩
        rw [show (false || !false) = true from rfl] at h5
        obtain ⟨c0, c1, c2, f1, f2⟩ := h5.cells
        have hn := Aside0.mk (h5.setA (k2 : Nat) (by omega) (by omega) (fun e => by (cases e)))
        have hm := Aside0.mk ((hm4.out.trans hm5).set (o := 1) (u := .int .i64 (k2 : Nat)))
        clear h5 hm5
        go_wp2
        go_ret
        exact ⟨v, (k2 : Nat), true, rfl, (by omega), hn.out, hm.out, (fun v' k' e => by rw [hQ2.out] at e; cases e), (fun _ => rfl)⟩
      | false =>
        have HM := Aside0.mk (l7Must_calls s (k : Nat) false true g _ h4.out)
        go_wp2_with fail
        refine (HM.out).mono ?_
        rintro e w5 ⟨rfl, h5, hm5⟩
        rw [show (false || !true) = false from rfl] at h5
        obtain ⟨c0, c1, c2, f1, f2⟩ := h5.cells
        have hn := Aside0.mk (h5.setA (k2 : Nat) (by omega) (by omega) (fun e => by omega))
        have hm := Aside0.mk ((hm4.out.trans hm5).set (o := 1) (u := .int .i64 (k2 : Nat)))
        clear h5 hm5
        go_wp2
        go_ret
        exact ⟨v, (k2 : Nat), false, rfl, (by omega), hn.out, hm.out, (fun v' k' e => by rw [hQ2.out] at e; cases e; exact ⟨rfl, rfl, rfl⟩), (fun e => by rw [hQ2.out] at e; cases e)⟩
    | false =>
      have q2 := hq2 q1
      go_enter Tryz.func105, Tryz.ntmps105
      go_upto_region 1 with fail
      refine wp_region_later (by kernel_rfl) (by kernel_rfl) ?_
      repeat (go_big_quiet_step ((go_at_call 86; exact later_call (HI.out _ _ (by decide)))))
      refine wpQuiet_nil ?_
      rintro _ ⟨⟨W1, hb1⟩, rfl⟩
      clear C0 C1 C2
      have h1 := Aside0.mk (HR.out.below hb1)
      have hm1 := Aside0.mk (Moved.of hb1 : Moved g w _)
      obtain ⟨c0, c1, c2, f1, f2⟩ := h1.out.cells
      have C0 := later_cell c0 h1.out.lt
      have C1 := later_cell c1 h1.out.lt
      clear c0 c1 c2 f1 f2 hb1
      go_upto_region 4 with fail
      refine wp_region_later (by kernel_rfl) (by kernel_rfl) ?_
      repeat (go_big_quiet_step ((go_at_call 87; exact later_call ((HTo.out _).mono (fun _ _ h => ⟨h.1, by rw [h.2]; exact Below.refl _ _⟩)))))
      refine wpQuiet_nil ?_
      rintro _ ⟨⟨W4, hb4⟩, rfl⟩
      clear C0 C1
      have h4 := Aside0.mk (h1.out.below hb4)
      have hm4 := Aside0.mk (hm1.out.trans (Moved.of hb4))
      clear hb4
      go_wp2_with fail
      refine (HH.out _).mono ?_
      rintro e w9 ⟨rfl, rfl⟩
      clear HH
      cases r with
      | true =>
        have HM := Aside0.mk (l7Must_calls s (k : Nat) false false g _ h4.out)
        go_wp2_with fail
        refine (HM.out).mono ?_
        rintro e w5 ⟨rfl, h5, hm5⟩
        rw [show (false || !false) = true from rfl] at h5
        obtain ⟨c0, c1, c2, f1, f2⟩ := h5.cells
        have hn := Aside0.mk (h5.setA (k2 : Nat) (by omega) (by omega) (fun e => by (cases e)))
        have hm := Aside0.mk ((hm4.out.trans hm5).set (o := 1) (u := .int .i64 (k2 : Nat)))
        clear h5 hm5
        go_wp2
        go_ret
        exact ⟨v, (k2 : Nat), true, rfl, (by omega), hn.out, hm.out, (fun v' k' e => by rw [hQ2.out] at e; cases e), (fun _ => rfl)⟩
      | false =>
        have HM := Aside0.mk (l7Must_calls s (k : Nat) false true g _ h4.out)
        go_wp2_with fail
        refine (HM.out).mono ?_
        rintro e w5 ⟨rfl, h5, hm5⟩
        rw [show (false || !true) = false from rfl] at h5
        obtain ⟨c0, c1, c2, f1, f2⟩ := h5.cells
        have hn := Aside0.mk (h5.setA (k2 : Nat) (by omega) (by omega) (fun e => by omega))
        have hm := Aside0.mk ((hm4.out.trans hm5).set (o := 1) (u := .int .i64 (k2 : Nat)))
        clear h5 hm5
        go_wp2
        go_ret
        exact ⟨v, (k2 : Nat), false, rfl, (by omega), hn.out, hm.out, (fun v' k' e => by rw [hQ2.out] at e; cases e; exact ⟨rfl, rfl, rfl⟩), (fun e => by rw [hQ2.out] at e; cases e)⟩
end Go.Proofs.YtmfkdgdamepbcaaGreatDoor
end
section
/- A note in a head, of the reference. -/
namespace Go.Proofs.YtmfkdgdamepbcaaGreatDoor
open Go.RowKit Go.Lib
set_option linter.unusedVariables false
set_option linter.unusedSimpArgs false
set_option maxHeartbeats 8000000
set_option maxRecDepth 100000
/-- What comes of a step of the reader. -/
def RdOut (w : World) (g : Nat) (s : ByteArray) (o : Option Nat) (w' : World) : Prop :=
  ∃ (b : Int) (q : Bool), Rd w' g s b q ∧ Moved g w w' ∧ (∀ k, o = some k → b = (k : Nat) ∧ q = false) ∧ (o = none → q = true)
theorem note_bare (text : ByteArray) (w : World) :
    Calls Tryz.prog 137 #[.agg #[.int .i64 3, .string ⟨#[]⟩, .string ⟨#[]⟩, .string ⟨#[]⟩, .slice none 0 0, .slice none 0 0, .slice none 0 0, .string text]] w fun e w' => e = .returned (.bool true) ∧ Below w.heap.size w w' := by
  have HB : Below w.heap.size w (w.alloc (.cells #[.int .i64 3, .string ⟨#[]⟩, .string ⟨#[]⟩, .string ⟨#[]⟩, .slice none 0 0, .slice none 0 0, .slice none 0 0, .string text] 131)) := below_alloc (Below.refl _ _) _
  go_enter Tryz.func137, Tryz.ntmps137
  go_wp2
  go_ret
  exact ⟨rfl, HB⟩
theorem note_one (text : ByteArray) (w : World) (ht : text.size ≤ 1000000000) :
    Calls Tryz.prog 104 #[.agg #[.int .i64 3, .string ⟨#[]⟩, .string ⟨#[]⟩, .string ⟨#[]⟩, .slice none 0 0, .slice none 0 0, .slice none 0 0, .string text]] w fun e w' => e = .returned (.bool (noteOk text)) ∧ Below w.heap.size w w' := by
  obtain ⟨W, hW, HB, hsz, HG⟩ := boxed w #[.int .i64 3, .string ⟨#[]⟩, .string ⟨#[]⟩, .string ⟨#[]⟩, .slice none 0 0, .slice none 0 0, .slice none 0 0, .string text] 131
  have K := Aside0.mk (fun W1 hb => box_cells (((hb : Below W.heap.size W W1).block _ hsz).trans HG))
  have HW := Aside0.mk hW
  clear hW
  clear HG
  have hv2 := Aside0.mk (show noteOk text = (textOk text && !hasB text [45, 45] && !hasSuffix text.data.toList [45] && !hasB text [13]) from rfl)
  obtain ⟨R, hR⟩ : ∃ R, R = noteOk text := ⟨_, rfl⟩
  rw [← hR] at hv2 ⊢
  clear hR
  go_enter Tryz.func104, Tryz.ntmps104
  go_upto_region 1 with fail
  rw [← HW.out]
  obtain ⟨c0, c1, c2, c3, c4, c5, c6, c7⟩ := K.out _ (Below.refl _ _)
  go_wp2_with fail
  refine (note_bare text W).mono ?_
  rintro e w1 ⟨rfl, hb1⟩
  obtain ⟨d0, d1, d2, d3, d4, d5, d6, d7⟩ := K.out _ hb1
  clear c0 c1 c2 c3 c4 c5 c6 c7
  go_wp2_with fail
  refine (specTextOk_calls text w1 (by omega)).mono ?_
  rintro e w2 ⟨rfl, hb2⟩
  have hb12 := below_then hb1 hb2
  cases h1 : textOk text
  case false =>
    have hfin := Aside0.mk (show R = false by rw [hv2.out, h1]; simp)
    clear h1
    go_wp2
    go_ret
    exact ⟨by rw [hfin.out]; rfl, below_then HB hb12⟩
  have H1 := Aside0.mk h1
  clear h1
  obtain ⟨c0, c1, c2, c3, c4, c5, c6, c7⟩ := K.out _ hb12
  clear d0 d1 d2 d3 d4 d5 d6 d7
  go_wp2_with fail
  refine (l5Has_calls text ⟨#[45, 45]⟩ w2 (by omega) (by decide) (by decide)).mono ?_
  rintro e w3 ⟨rfl, rfl⟩
  rw [show hasB text (⟨#[45, 45]⟩ : ByteArray).data.toList = hasB text [45, 45] from rfl]
  cases h2 : hasB text [45, 45]
  case true =>
    have hfin := Aside0.mk (show R = false by rw [hv2.out, h2]; simp)
    clear h2
    go_wp2
    go_ret
    exact ⟨by rw [hfin.out]; rfl, below_then HB hb12⟩
  have H2 := Aside0.mk h2
  clear h2
  go_wp2_with fail
  refine (l5Has_calls text ⟨#[13]⟩ _ (by omega) (by decide) (by decide)).mono ?_
  rintro e w3 ⟨rfl, rfl⟩
  rw [show hasB text (⟨#[13]⟩ : ByteArray).data.toList = hasB text [13] from rfl]
  cases h3 : hasB text [13]
  case true =>
    have hfin := Aside0.mk (show R = false by rw [hv2.out, h3]; simp)
    clear h3
    go_wp2
    go_ret
    exact ⟨by rw [hfin.out]; rfl, below_then HB hb12⟩
  have H3 := Aside0.mk h3
  clear h3
  by_cases p2 : text = ⟨#[]⟩
  · have hfin := Aside0.mk (show R = true by rw [hv2.out, H1.out, H2.out, H3.out, p2]; rfl)
    subst p2
    go_wp2
    go_ret
    exact ⟨by rw [hfin.out]; rfl, below_then HB hb12⟩
  · have hz : 0 < text.size := by
      rcases Nat.eq_zero_or_pos text.size with h | h
      · exact absurd (str_ext (by rw [show text.data.toList = [] from List.length_eq_zero_iff.1 (by rw [str_size]; exact h)])) p2
      · exact h
    have i1 : ((text.size : Int) - 1).toNat = text.size - 1 := by omega
    have i2 : (0 : Int) ≤ (text.size : Int) - 1 := by omega
    have i3 : (text.size : Int) - 1 < (text.size : Int) := by omega
    have hu : (text[text.size - 1]'(by omega)).toNat < 256 := UInt8.toNat_lt _
    have hfin := Aside0.mk (show R = !(((text[text.size - 1]'(by omega)).toNat : Int) == 45) by rw [hv2.out, H1.out, H2.out, H3.out, suffix_at text 45 hz]; simp)
    have n1 := str_ne0 p2
    have n2 := str_neE p2
    clear p2
    go_wp2
    go_ret
    exact ⟨by rw [hfin.out]; rfl, below_then HB hb12⟩
theorem l7Note_calls (s : ByteArray) (k g : Nat) (w : World) (hs : s.size ≤ 1000000000) (h : Rd w g s (k : Nat) false) :
    Calls Tryz.prog 66 #[.pointer (some ⟨g, 0, none⟩)] w fun e w' => e = .returned (.tuple #[]) ∧ RdOut w g s (hnoteO s k) w' := by
  obtain ⟨c0, c1, c2, f1, f2⟩ := h.cells
  have C0 := later_cell c0 h.lt
  have C1 := later_cell c1 h.lt
  have HR := Aside0.mk h
  have hk : k ≤ s.size := by have := h.fit rfl; omega
  have HTo := Aside0.mk (fun W => l6To_calls s ⟨#[45, 45, 62]⟩ k W (by omega) hk (by decide) (by decide))
  have hnx := fun b p => toO_next (s := s) (t := ⟨#[45, 45, 62]⟩) (a := k) (b := b) (k := p) hk
  rw [toV_is] at HTo
  have hQ : hnoteO s k = (toO s ⟨#[45, 45, 62]⟩ k).bind fun q => if noteOk q.1 = true then some q.2 else none := rfl
  obtain ⟨O, hO⟩ : ∃ O, O = toO s ⟨#[45, 45, 62]⟩ k := ⟨_, rfl⟩
  rw [← hO] at HTo hnx hQ
  have hQ := Aside0.mk hQ
  clear hO c0 c1 c2 f1 f2 h
  cases O with
  | none =>
    simp only [tnV] at HTo
    clear hnx
    go_enter Tryz.func66, Tryz.ntmps66
    go_upto_region 0 with fail
    refine wp_region_later (by kernel_rfl) (by kernel_rfl) ?_
    repeat (go_big_quiet_step ((go_at_call 87; exact later_call ((HTo.out _).mono (fun _ _ h => ⟨h.1, by rw [h.2]; exact Below.refl _ _⟩)))))
    refine wpQuiet_nil ?_
    rintro _ ⟨⟨W4, hb4⟩, rfl⟩
    clear C0 C1
    have h4 := HR.out.below hb4
    have hm4 := (Moved.of hb4 : Moved g w _)
    clear hb4
    have HM := Aside0.mk (l7Must_calls s (k : Nat) false false g _ h4)
    have hm4 := Aside0.mk hm4
    clear h4
    go_wp2_with fail
    refine (HM.out).mono ?_
    rintro e w5 ⟨rfl, h5, hm5⟩
    rw [show (false || !false) = true from rfl] at h5
    obtain ⟨c0, c1, c2, f1, f2⟩ := h5.cells
    have hn := Aside0.mk (h5.setA (-1) (by omega) (by omega) (fun e => by (cases e)))
    have hm := Aside0.mk ((hm4.out.trans hm5).set (o := 1) (u := .int .i64 (-1)))
    clear h5 hm5
    go_wp2
    go_end0
    exact ⟨rfl, (-1), true, hn.out, hm.out, (fun k e => by rw [hQ.out] at e; cases e), (fun _ => rfl)⟩
  | some p =>
    obtain ⟨t, k2⟩ := p
    have hp := hnx t k2 rfl
    have hN := Aside0.mk (fun W => note_one t W (by omega))
    have k20 : (0 : Int) ≤ (k2 : Int) := by omega
    simp only [tnV] at HTo
    obtain ⟨r, hr⟩ : ∃ r, r = noteOk t := ⟨_, rfl⟩
    rw [← hr] at hN
    have hQ2 := Aside0.mk (show hnoteO s k = if r = true then some k2 else none by rw [hQ.out, hr]; rfl)
    clear hr hQ hnx
    go_enter Tryz.func66, Tryz.ntmps66
    go_upto_region 0 with fail
    refine wp_region_later (by kernel_rfl) (by kernel_rfl) ?_
    repeat (go_big_quiet_step ((go_at_call 87; exact later_call ((HTo.out _).mono (fun _ _ h => ⟨h.1, by rw [h.2]; exact Below.refl _ _⟩)))))
    refine wpQuiet_nil ?_
    rintro _ ⟨⟨W4, hb4⟩, rfl⟩
    clear C0 C1
    have h4 := HR.out.below hb4
    have hm4 := (Moved.of hb4 : Moved g w _)
    clear hb4
    go_wp2_with fail
    refine (hN.out _).mono ?_
    rintro e w9 ⟨rfl, hb9⟩
    have h4 := h4.below hb9
    have hm4 := hm4.then hb9
    clear hb9 hN
    cases r with
    | false =>
      have HM := Aside0.mk (l7Must_calls s (k : Nat) false false g _ h4)
      have hm4 := Aside0.mk hm4
      clear h4
      go_wp2_with fail
      refine (HM.out).mono ?_
      rintro e w5 ⟨rfl, h5, hm5⟩
      rw [show (false || !false) = true from rfl] at h5
      obtain ⟨c0, c1, c2, f1, f2⟩ := h5.cells
      have hn := Aside0.mk (h5.setA (k2 : Nat) (by omega) (by omega) (fun e => by (cases e)))
      have hm := Aside0.mk ((hm4.out.trans hm5).set (o := 1) (u := .int .i64 (k2 : Nat)))
      clear h5 hm5
      go_wp2
      go_end0
      exact ⟨rfl, (k2 : Nat), true, hn.out, hm.out, (fun k e => by rw [hQ2.out] at e; cases e), (fun _ => rfl)⟩
    | true =>
      have HM := Aside0.mk (l7Must_calls s (k : Nat) false true g _ h4)
      have hm4 := Aside0.mk hm4
      clear h4
      go_wp2_with fail
      refine (HM.out).mono ?_
      rintro e w5 ⟨rfl, h5, hm5⟩
      rw [show (false || !true) = false from rfl] at h5
      obtain ⟨c0, c1, c2, f1, f2⟩ := h5.cells
      have hn := Aside0.mk (h5.setA (k2 : Nat) (by omega) (by omega) (fun e => by omega))
      have hm := Aside0.mk ((hm4.out.trans hm5).set (o := 1) (u := .int .i64 (k2 : Nat)))
      clear h5 hm5
      go_wp2
      go_end0
      exact ⟨rfl, (k2 : Nat), false, hn.out, hm.out, (fun k e => by rw [hQ2.out] at e; cases e; exact ⟨rfl, rfl⟩), (fun e => by rw [hQ2.out] at e; cases e)⟩
end Go.Proofs.YtmfkdgdamepbcaaGreatDoor
end
section
/- The reference's heads: l7Entity. -/
namespace Go.Proofs.YtmfkdgdamepbcaaGreatDoor
open Go.RowKit Go.Lib
set_option linter.unusedVariables false
set_option linter.unusedSimpArgs false
set_option maxHeartbeats 8000000
set_option maxRecDepth 100000
theorem l7NameQ_calls (s : ByteArray) (a : Int) (q : Bool) (g : Nat) (w : World) (hs : s.size ≤ 1000000000) (h : Rd w g s a q) :
    Calls Tryz.prog 65 #[.pointer (some ⟨g, 0, none⟩)] w fun e w' => ∃ (n : ByteArray) (b : Int) (q' : Bool), e = .returned (.string n) ∧ n.size ≤ s.size ∧ Rd w' g s b q' ∧ Moved g w w' ∧ (q = false → ∀ n' k, nameI s a = some (n', k) → n = n' ∧ b = (k : Nat) ∧ q' = false) ∧ (q = true ∨ nameI s a = none → q' = true) := by
  cases q with
  | true =>
    refine (l7Name_bad s a true g w hs h (.inl rfl)).mono ?_
    rintro e w1 ⟨rfl, h1, hm⟩
    exact ⟨_, _, _, rfl, Nat.zero_le _, h1, hm, (fun e => by cases e), fun _ => rfl⟩
  | false =>
    cases hn : nameI s a with
    | none =>
      refine (l7Name_bad s a false g w hs h (.inr hn)).mono ?_
      rintro e w1 ⟨rfl, h1, hm⟩
      exact ⟨_, _, _, rfl, Nat.zero_le _, h1, hm, (fun _ n' k e => by cases e), fun _ => rfl⟩
    | some p =>
      obtain ⟨n, k⟩ := p
      refine (l7Name_ok s n a k g w hs h hn).mono ?_
      rintro e w1 ⟨rfl, h1, hm⟩
      exact ⟨_, _, _, rfl, (nameI_next hn).2.2, h1, hm, (fun _ n' k' e => by injection e with e; injection e with e1 e2; exact ⟨e1, by rw [e2], rfl⟩), fun e => by rcases e with e | e <;> cases e⟩
theorem blanksI_nat {s : ByteArray} (k : Nat) : blanksI s (k : Nat) = ((blanksN s k : Nat) : Int) := by
  rw [blanksI, if_neg (by omega), Int.toNat_natCast]
theorem gap_is (s : ByteArray) (k : Nat) : (gapO s k = some (blanksN s k) ∧ decide ((1 : Int) ≤ blanksI s (k : Nat) - (k : Nat)) = true) ∨ (gapO s k = none ∧ decide ((1 : Int) ≤ blanksI s (k : Nat) - (k : Nat)) = false) := by
  have := (blanksN_le s k).1
  rw [blanksI_nat, gapO]
  by_cases h : blanksN s k = k
  · exact .inr ⟨if_pos h, decide_eq_false (by omega)⟩
  · exact .inl ⟨if_neg h, decide_eq_true (by omega)⟩
theorem nameI_nat {s : ByteArray} {k : Nat} (hk : k ≤ s.size) : nameI s (k : Nat) = nameO s k := by
  rw [nameI, if_pos (by omega), Int.toNat_natCast]
def expX (o : Option ByteArray) : ByteArray := match o with | some y => y | none => ⟨#[]⟩
/-- The reference's way through an Ent. -/
theorem entity_law {s n v : ByteArray} {k : Nat} {es : List Dcl} {a2 a5 a7 : Int} {q1 q2 q3 q4 q5 q6 q7 q8 : Bool} {x : ByteArray} {ok : Bool} (hk : k ≤ s.size)
    (h1 : q1 = (false || !decide ((1 : Int) ≤ blanksI s (k : Nat) - (k : Nat))))
    (h2 : q1 = false → ∀ n' k', nameI s (blanksI s (k : Nat)) = some (n', k') → n = n' ∧ a2 = (k' : Nat) ∧ q2 = false) (h2b : q1 = true ∨ nameI s (blanksI s (k : Nat)) = none → q2 = true)
    (h3 : q3 = (q2 || !plainOk n)) (h4 : q4 = (q3 || !decide ((1 : Int) ≤ blanksI s a2 - a2)))
    (h5 : ∀ v' k', (if q4 = true then none else quoO s (blanksI s a2).toNat) = some (v', k') → v = v' ∧ a5 = (k' : Nat) ∧ q5 = false) (h5b : (if q4 = true then none else quoO s (blanksI s a2).toNat) = none → q5 = true)
    (hx : x = expX (expandV v es)) (hok : ok = (expandV v es).isSome)
    (h6 : q6 = (q5 || !decide ((0 : Int) ≤ blanksI s a5 - a5))) (h7 : q7 = (q6 || !(ok && (!q6 && isAtB s ⟨#[62]⟩ (blanksI s a5))))) (h7a : a7 = if (ok && (!q6 && isAtB s ⟨#[62]⟩ (blanksI s a5))) = true then blanksI s a5 + 1 else blanksI s a5)
    (h8 : q8 = (q7 || !entsOk (es ++ [⟨n, x⟩]))) :
    (∀ d nx, entO s k es = some (d, nx) → d = ⟨n, x⟩ ∧ a7 = (nx : Nat) ∧ q8 = false) ∧ (entO s k es = none → q8 = true) := by
  unfold entO
  rcases gap_is s k with ⟨g1, d1⟩ | ⟨g1, d1⟩
  · rw [g1]
    simp only [Option.bind_some]
    have b1 := gapO_next g1
    have bl := (blanksN_le s k).2 hk
    rw [d1] at h1
    have h1 : q1 = false := h1
    rw [blanksI_nat, nameI_nat bl] at h2 h2b
    cases hn : nameO s (blanksN s k) with
    | none =>
      have := h2b (.inr hn)
      subst this
      refine ⟨fun d nx e => (by cases e), fun _ => ?_⟩
      have : q3 = true := by rw [h3]; rfl
      have : q4 = true := by rw [h4, this]; rfl
      have : q5 = true := h5b (by rw [this]; rfl)
      have : q6 = true := by rw [h6, this]; rfl
      have : q7 = true := by rw [h7, this]; rfl
      rw [h8, this]; rfl
    | some p =>
      obtain ⟨n1, k1⟩ := p
      obtain ⟨e1, e2, e3⟩ := h2 h1 n1 k1 hn
      subst e1 e2 e3
      have hk1 := nameO_next bl hn
      simp only [Option.bind_some]
      cases hp : plainOk n with
      | false =>
        rw [if_neg (by decide)]
        rw [hp] at h3
        refine ⟨fun d nx e => (by cases e), fun _ => ?_⟩
        have : q3 = true := by rw [h3]; rfl
        have : q4 = true := by rw [h4, this]; rfl
        have : q5 = true := h5b (by rw [this]; rfl)
        have : q6 = true := by rw [h6, this]; rfl
        have : q7 = true := by rw [h7, this]; rfl
        rw [h8, this]; rfl
      | true =>
        rw [if_pos rfl]
        rw [hp] at h3
        have h3 : q3 = false := h3
        subst h3
        rcases gap_is s k1 with ⟨g2, d2⟩ | ⟨g2, d2⟩
        · rw [g2]
          simp only [Option.bind_some]
          have b2 := gapO_next g2
          have bl2 := (blanksN_le s k1).2 (by omega)
          rw [d2] at h4
          have h4 : q4 = false := h4
          subst h4
          rw [if_neg (by decide), blanksI_nat, Int.toNat_natCast] at h5 h5b
          cases hv : quoO s (blanksN s k1) with
          | none =>
            refine ⟨fun d nx e => (by cases e), fun _ => ?_⟩
            have : q5 = true := h5b hv
            have : q6 = true := by rw [h6, this]; rfl
            have : q7 = true := by rw [h7, this]; rfl
            rw [h8, this]; rfl
          | some p2 =>
            obtain ⟨v1, k2⟩ := p2
            obtain ⟨e1, e2, e3⟩ := h5 v1 k2 hv
            subst e1 e2 e3
            have hk2 := quoO_next hv
            have bl3 := blanksN_le s k2
            simp only [Option.bind_some]
            rw [blanksI_nat, decide_eq_true (by omega)] at h6
            have h6 : q6 = false := h6
            subst h6
            rw [blanksI_nat] at h7 h7a
            cases hxv : expandV v es with
            | none =>
              rw [hxv] at hok
              have hok : ok = false := hok
              subst hok
              refine ⟨fun d nx e => (by cases e), fun _ => ?_⟩
              have : q7 = true := h7
              rw [h8, this]; rfl
            | some y =>
              rw [hxv] at hok hx
              have hok : ok = true := hok
              have hx : x = y := hx
              subst hok hx
              simp only [Option.bind_some]
              cases hi : isAtB s ⟨#[62]⟩ (blanksN s k2 : Nat) with
              | false =>
                rw [hi] at h7
                have h7 : q7 = true := h7
                rw [if_neg (by simp)]
                refine ⟨fun d nx e => (by cases e), fun _ => ?_⟩
                rw [h8, h7]; rfl
              | true =>
                rw [hi] at h7 h7a
                have h7 : q7 = false := h7
                subst h7
                have h7a : a7 = ((blanksN s k2 : Nat) : Int) + 1 := h7a
                cases ho : entsOk (es ++ [⟨n, x⟩]) with
                | false =>
                  rw [ho] at h8
                  rw [if_neg (by simp)]
                  exact ⟨fun d nx e => (by cases e), fun _ => h8⟩
                | true =>
                  rw [ho] at h8
                  rw [if_pos ⟨rfl, rfl⟩]
                  refine ⟨fun d nx e => ?_, fun e => by cases e⟩
                  injection e with e
                  injection e with e1 e2
                  exact ⟨e1.symm, by rw [h7a, ← e2]; omega, h8⟩
        · rw [g2]
          rw [d2] at h4
          refine ⟨fun d nx e => (by cases e), fun _ => ?_⟩
          have : q4 = true := h4
          have : q5 = true := h5b (by rw [this]; rfl)
          have : q6 = true := by rw [h6, this]; rfl
          have : q7 = true := by rw [h7, this]; rfl
          rw [h8, this]; rfl
  · rw [g1]
    rw [d1] at h1
    refine ⟨fun d nx e => (by cases e), fun _ => ?_⟩
    have : q1 = true := h1
    have : q2 = true := h2b (.inl this)
    have : q3 = true := by rw [h3, this]; rfl
    have : q4 = true := by rw [h4, this]; rfl
    have : q5 = true := h5b (by rw [this]; rfl)
    have : q6 = true := by rw [h6, this]; rfl
    have : q7 = true := by rw [h7, this]; rfl
    rw [h8, this]; rfl
/-- A reader and a head, behind the worlds of a call. -/
structure RH (n0 base r g : Nat) (s name : ByteArray) (w0 w : World) (a : Int) (q : Bool) (vE vD : Value) (es : List Dcl) (ds : List Df) : Prop where
  hb : Below n0 w0 w
  rd : Rd w r s a q
  hd : HdAt w base g name vE vD es ds
  hn : n0 ≤ w.heap.size
  hr : n0 ≤ r
  hg : n0 ≤ g
  hbs : n0 ≤ base
  ne : r ≠ g
  rb : r < base
section
variable {n0 base r g : Nat} {s name n x : ByteArray} {w0 w w1 w' : World} {a b : Int} {q p : Bool} {vE vD v' : Value} {es : List Dcl} {ds : List Df} {d : Df}
theorem RH.step (h : RH n0 base r g s name w0 w a q vE vD es ds) (hr : Rd w1 r s b p) (hm : Moved r w w1) : RH n0 base r g s name w0 w1 b p vE vD es ds :=
  ⟨h.hb.trans (hm.below h.hr h.hn), hr, h.hd.moved hm (fun e => h.ne e.symm) h.rb, Nat.le_trans h.hn hm.size, h.hr, h.hg, h.hbs, h.ne, h.rb⟩
theorem RH.below (h : RH n0 base r g s name w0 w a q vE vD es ds) (hb : Below w.heap.size w w1) : RH n0 base r g s name w0 w1 a q vE vD es ds :=
  h.step (h.rd.below hb) (Moved.of hb)
theorem RH.grow {o : Nat} {u : Value} (h : RH n0 base r g s name w0 w a q vE vD es ds) (hg : Hg base g w w1) : Below n0 w0 w1 ∧ Rd w1 r s a q ∧ n0 ≤ w1.heap.size :=
  ⟨h.hb.trans (hg.below h.hbs h.hg h.hn), ⟨(hg.block r h.rd.lt h.rb h.ne).trans h.rd.heap, h.rd.lo, h.rd.hi, h.rd.fit⟩, Nat.le_trans h.hn hg.size⟩
theorem RH.addE (h : RH n0 base r g s name w0 w a q vE vD es ds) (hown : w'.ownsRow base 57 2 v' (es.length + 1) (es.flatMap Dcl.cells ++ [.string n, .string x])) (hg : w.grownBy w' vE.ownBlock)
    (hat : v'.ownBlock = vE.ownBlock ∨ v'.ownBlock = some w.heap.size) : RH n0 base r g s name w0 (w'.setCell ⟨g, 1, none⟩ v') a q v' vD (es ++ [⟨n, x⟩]) ds := by
  obtain ⟨h1, h2, h3⟩ := h.grow (o := 1) (u := v') (Hg.of hg (fun k hk => (h.hd.hE.lt k hk).1) 1 v')
  exact ⟨h1, h2, h.hd.addE hown hg hat, h3, h.hr, h.hg, h.hbs, h.ne, h.rb⟩
theorem RH.addD (h : RH n0 base r g s name w0 w a q vE vD es ds) (hown : w'.ownsRow base 54 5 v' (ds.length + 1) (ds.flatMap Df.cells ++ d.cells)) (hg : w.grownBy w' vD.ownBlock)
    (hat : v'.ownBlock = vD.ownBlock ∨ v'.ownBlock = some w.heap.size) : RH n0 base r g s name w0 (w'.setCell ⟨g, 2, none⟩ v') a q vE v' es (ds ++ [d]) := by
  obtain ⟨h1, h2, h3⟩ := h.grow (o := 2) (u := v') (Hg.of hg (fun k hk => (h.hd.hD.lt k hk).1) 2 v')
  exact ⟨h1, h2, h.hd.addD hown hg hat, h3, h.hr, h.hg, h.hbs, h.ne, h.rb⟩
end
theorem ents_le {l : List Dcl} (h : entsOk l = true) : l.length ≤ 4 ∧ ∀ d ∈ l, d.pre.size ≤ 1048576 ∧ d.uri.size ≤ 1048576 := by
  refine ⟨(small_ents h).1, fun d hd => ?_⟩
  obtain ⟨h1, h2⟩ := (small_ents h).2 d hd
  have := text_size h2
  rw [plainOk, Bool.and_eq_true, Bool.and_eq_true, decide_eq_true_eq, decide_eq_true_eq] at h1
  omega
theorem expX_size (v : ByteArray) (es : List Dcl) : (expX (expandV v es)).size ≤ 600 := by
  cases e : expandV v es with
  | none => exact Nat.zero_le _
  | some y => 
    unfold expandV at e
    split at e
    · cases e2 : expN v es 0 ⟨#[]⟩ with
      | none => rw [e2] at e; cases e
      | some o =>
        rw [e2] at e
        simp only [Option.bind_some] at e
        split at e
        · rename_i h
          injection e with e
          rw [← e]
          exact text_size h
        · cases e
    · cases e
theorem ents_snoc {es : List Dcl} {n x : ByteArray} (h : entsOk es = true) (hn : n.size ≤ 1048576) (hx : x.size ≤ 600) : (es ++ [(⟨n, x⟩ : Dcl)]).length ≤ 5 ∧ ∀ d ∈ es ++ [(⟨n, x⟩ : Dcl)], d.pre.size ≤ 1048576 ∧ d.uri.size ≤ 1048576 := by
  obtain ⟨h1, h2⟩ := ents_le h
  refine ⟨by rw [List.length_append, List.length_singleton]; omega, fun d hd => ?_⟩
  rcases List.mem_append.1 hd with hd | hd
  · exact h2 d hd
  · rw [List.mem_singleton] at hd
    subst hd
    exact ⟨hn, by show x.size ≤ _; omega⟩
def EnOut (n0 base r g : Nat) (s name : ByteArray) (w0 : World) (vD : Value) (es : List Dcl) (ds : List Df) (o : Option (Dcl × Nat)) (w' : World) : Prop :=
  ∃ (a : Int) (q : Bool) (vE : Value) (es' : List Dcl), RH n0 base r g s name w0 w' a q vE vD es' ds ∧ (∀ d nx, o = some (d, nx) → es' = es ++ [d] ∧ a = (nx : Nat) ∧ q = false) ∧ (o = none → q = true)
theorem optV_is (o : Option ByteArray) : optV o = .tuple #[.string (expX o), .bool o.isSome] := by cases o <;> rfl
theorem RH.pE {n0 base r g : Nat} {s name : ByteArray} {w0 w w' : World} {a : Int} {q : Bool} {vE vD : Value} {es : List Dcl} {ds : List Df} (h : RH n0 base r g s name w0 w a q vE vD es ds) (hg : w.grownBy w' vE.ownBlock) :
    w'.cell? ⟨g, 1, none⟩ = some vE ∧ w'.frozen? ⟨g, 1, none⟩ = false := by
  have hp : w'.heap[g]? = some (.cells #[.string name, vE, vD] 48 (0, 0)) := (hg.block g h.hd.glt (fun e => by have := (h.hd.hE.lt g e.symm).1; have := h.hd.lt; omega)).trans h.hd.heap
  have := cells3 hp
  exact ⟨this.2.1, this.2.2.2.2.1⟩
theorem RH.pD {n0 base r g : Nat} {s name : ByteArray} {w0 w w' : World} {a : Int} {q : Bool} {vE vD : Value} {es : List Dcl} {ds : List Df} (h : RH n0 base r g s name w0 w a q vE vD es ds) (hg : w.grownBy w' vD.ownBlock) :
    w'.cell? ⟨g, 2, none⟩ = some vD ∧ w'.frozen? ⟨g, 2, none⟩ = false := by
  have hp : w'.heap[g]? = some (.cells #[.string name, vE, vD] 48 (0, 0)) := (hg.block g h.hd.glt (fun e => by have := (h.hd.hD.lt g e.symm).1; have := h.hd.lt; omega)).trans h.hd.heap
  have := cells3 hp
  exact ⟨this.2.2.1, this.2.2.2.2.2⟩
set_option maxHeartbeats 0 in
theorem l7Entity_calls (n0 base r g : Nat) (s name : ByteArray) (k : Nat) (vE vD : Value) (es : List Dcl) (ds : List Df) (w0 w : World) (hs : s.size ≤ 1048576) (hes : entsOk es = true) (h : RH n0 base r g s name w0 w (k : Nat) false vE vD es ds) :
    Calls Tryz.prog 67 #[.pointer (some ⟨r, 0, none⟩), .pointer (some ⟨g, 0, none⟩)] w fun e w' => e = .returned (.tuple #[]) ∧ EnOut n0 base r g s name w0 vD es ds (entO s k es) w' := by
  have hk : k ≤ s.size := by have := h.rd.fit rfl; omega
  obtain ⟨A, c, hvE, hc, _⟩ := h.hd.ents
  have hel := (ents_le hes).1
  obtain ⟨i, hi, hz0, hz1, hz2⟩ := info_parts Tryz.info_Ent
  have hnz : (.agg #[.string ⟨#[]⟩, .string ⟨#[]⟩] : Value).cells.size = 2 := rfl
  have HES := Aside0.mk hes
  obtain ⟨o, ho⟩ : ∃ o, o = entO s k es := ⟨_, rfl⟩
  rw [← ho]
  replace ho := Aside0.mk ho
  have hhk := Aside0.mk hk
  have Hz2 := Aside0.mk hz2
  clear hz2
  clear hes hk
  subst hvE
  have HBl := Aside0.mk (fun a q (l : Int) W (h0 : 0 ≤ l) (h1 : l ≤ 1) (h : Rd W r s a q) => l7Blanks_calls s a l q r W (by omega) h h0 h1)
  have HMu := Aside0.mk (fun a q b W (h : Rd W r s a q) => l7Must_calls s a q b r W h)
  have HNm := Aside0.mk (fun a q W (h : Rd W r s a q) => l7NameQ_calls s a q r W (by omega) h)
  have HVa := Aside0.mk (fun a q W (h : Rd W r s a q) => l7Value_calls s a q r W (by omega) h)
  have HIs := Aside0.mk (fun a q W (h : Rd W r s a q) => l7Is_calls s ⟨#[62]⟩ a q r W (by omega) (by decide) h)
  have hsz := Aside0.mk hs
  obtain ⟨b1, hb1⟩ : ∃ b, b = blanksI s (k : Nat) := ⟨_, rfl⟩
  have H1 := Aside0.mk (HBl.out _ _ 1 w (by decide) (by decide) h.rd)
  rw [← hb1] at H1
  obtain ⟨q1, hq1⟩ : ∃ q, q = (false || !decide ((1 : Int) ≤ b1 - (k : Nat))) := ⟨_, rfl⟩
  rw [← hq1] at H1
  rw [hb1] at hq1
  replace hq1 := Aside0.mk hq1
  replace hb1 := Aside0.mk hb1
  go_enter Tryz.func67, Tryz.ntmps67
  go_wp2_with fail
  refine (H1.out).mono ?_
  rintro e w1 ⟨rfl, r1, m1⟩
  have h1 := h.step r1 m1
  clear r1 m1 h H1
  go_wp2_with fail
  refine (HNm.out _ _ _ h1.rd).mono ?_
  rintro e w2 ⟨n, a2, q2, rfl, hnz2, r2, m2, hn1, hn2⟩
  have h2 := h1.step r2 m2
  rw [hb1.out] at hn1 hn2
  replace hn1 := Aside0.mk hn1
  replace hn2 := Aside0.mk hn2
  clear r2 m2 h1
  have hnn : n.size ≤ 1048576 := Nat.le_trans hnz2 hsz.out
  go_wp2_with fail
  refine (specPlainOk_calls n _ (by omega)).mono ?_
  rintro e w3 ⟨rfl, hb3⟩
  have h3 := h2.below hb3
  clear hb3 h2
  obtain ⟨q3, hq3⟩ : ∃ q, q = (q2 || !plainOk n) := ⟨_, rfl⟩
  obtain ⟨pn, hpn⟩ : ∃ p, p = plainOk n := ⟨_, rfl⟩
  have H4 := Aside0.mk (HMu.out _ _ pn _ h3.rd)
  rw [← hpn] at hq3 ⊢
  rw [← hq3] at H4
  rw [hpn] at hq3
  replace hq3 := Aside0.mk hq3
  clear hpn
  go_wp2_with fail
  refine (H4.out).mono ?_
  rintro e w4 ⟨rfl, r4, m4⟩
  have h4 := h3.step r4 m4
  clear r4 m4 h3 H4
  obtain ⟨b4, hb4⟩ : ∃ b, b = blanksI s a2 := ⟨_, rfl⟩
  obtain ⟨q4, hq4⟩ : ∃ q, q = (q3 || !decide ((1 : Int) ≤ b4 - a2)) := ⟨_, rfl⟩
  have H5 := Aside0.mk (HBl.out _ _ 1 _ (by decide) (by decide) h4.rd)
  rw [← hb4, ← hq4] at H5
  rw [hb4] at hq4
  replace hq4 := Aside0.mk hq4
  replace hb4 := Aside0.mk hb4
  go_wp2_with fail
  refine (H5.out).mono ?_
  rintro e w5 ⟨rfl, r5, m5⟩
  have h5 := h4.step r5 m5
  clear r5 m5 h4 H5
  have HV := Aside0.mk (fun W (hb : Below w5.heap.size w5 W) => HVa.out _ _ _ (h5.below hb).rd)
  have HST := Aside0.mk (fun W (hb : Below w5.heap.size w5 W) => h5.below hb)
  obtain ⟨c0, c1, c2, _⟩ := h5.hd.cells
  have C1 := later_cell c1 h5.hd.glt
  clear c0 c2 h5
  go_upto_region 4 with fail
  go_region_with (first
    | (go_at_call 105; refine (HV.out _ (below_drew (Below.refl _ _))).mono ?_; rintro e w6 ⟨v, a5, q5, rfl, hvz, r6, m6, hv1, hv2⟩
       have h6 := (HST.out _ (below_drew (Below.refl _ _))).step r6 m6
       have d1 := h6.hd.cells.2.1)
    | (go_at_call 91; refine (specExpand_calls v A c es _ (by obtain ⟨A', c', hv', _, hr'⟩ := h6.hd.ents; cases hv'; exact hr') (by omega) (ents_le HES.out).2).mono ?_; rintro e w7 ⟨rfl, hb7⟩
       rw [optV_is]
       have h7 := h6.below hb7))
  all_goals
    have hxz := expX_size v es
    clear C1 HV HST d1 h6 r6 m6 hb7
    obtain ⟨x, hx⟩ : ∃ x, x = expX (expandV v es) := ⟨_, rfl⟩
    obtain ⟨ok, hok⟩ : ∃ ok, ok = (expandV v es).isSome := ⟨_, rfl⟩
    rw [← hx] at hxz ⊢
    rw [← hok]
    replace hx := Aside0.mk hx
    replace hok := Aside0.mk hok
    obtain ⟨b6, hb6⟩ : ∃ b, b = blanksI s a5 := ⟨_, rfl⟩
    obtain ⟨q6, hq6⟩ : ∃ q, q = (q5 || !decide ((0 : Int) ≤ b6 - a5)) := ⟨_, rfl⟩
    have H8 := Aside0.mk (HBl.out _ _ 0 _ (by decide) (by decide) h7.rd)
    rw [← hb6, ← hq6] at H8
    rw [hb6] at hq6
    replace hq6 := Aside0.mk hq6
    replace hb6 := Aside0.mk hb6
    go_wp2_with fail
    refine (H8.out).mono ?_
    rintro e w8 ⟨rfl, r8, m8⟩
    have h8 := h7.step r8 m8
    clear r8 m8 h7 H8
    rw [hb4.out] at hv1 hv2
    replace hv1 := Aside0.mk hv1
    replace hv2 := Aside0.mk hv2
    cases ok with
    | false =>
      go_wp2_with fail
      refine (HMu.out _ _ false _ h8.rd).mono ?_
      rintro e w10 ⟨rfl, r10, m10⟩
      have h10 := h8.step r10 m10
      clear r10 m10 h8
      have hown' := Aside0.mk (own_below h10.hd.hE (below_alloc (Below.refl _ _) (.cells #[.string n, .string x] 57)))
      have hnews := Aside0.mk (pair_news w10 (.string n) (.string x) 57)
      have hle := h10.hd.le
      have h11 := Aside0.mk (h10.below (below_alloc (Below.refl _ _) (.cells #[.string n, .string x] 57)))
      obtain ⟨c0, c1, c2, f0, f1, f2⟩ := h10.hd.cells
      clear h10
      go_wp2_with (at_builtin; refine wpList_append_own_at _ rfl _ _ 24 rfl base 57 i _ 2 _ Tryz.underlying24 hi hz0 hz1 rfl hnz (by decide) _ _ _ rfl hown'.out ⟨w10.heap.size, 0, none⟩ 1 1 [.string n, .string x] rfl ?qc1 ?qc2 ?qc3 ?qc4 ?qc5 ?qc6 ?_)
      case qc1 => rfl
      case qc2 => exact hnews.out
      case qc3 => exact pair_one _ _
      case qc4 => unfold maxLen; omega
      case qc5 => rw [Hz2.out]; omega
      case qc6 => rw [World.alloc, Array.size_push]; omega
      intro v' w12 hown3 hgrow3 _ hat3
      have h13 := h11.out.addE hown3 hgrow3 (by rw [World.alloc, Array.size_push]; exact hat3)
      have hp := h11.out.pE hgrow3
      obtain ⟨p1, p2⟩ := hp
      clear hown3 hgrow3 hat3 c0 c1 c2 f0 f1 f2 h11 hown' hnews hle
      obtain ⟨A2, c2, hv2, hl2, hr2⟩ := h13.hd.ents
      rw [List.length_append, List.length_singleton] at hv2
      subst hv2
      go_upto_region 8 with fail
      obtain ⟨X, hX⟩ : ∃ X, X = w12.setCell ⟨g, 1, none⟩ (.slice A2 (es.length + 1) c2) := ⟨_, rfl⟩
      rw [← hX] at h13 hr2 ⊢
      clear hX p1 p2
      have hsn := ents_snoc (n := n) (x := x) HES.out hnn hxz
      have hl5 := hsn.1
      obtain ⟨es2, hes2⟩ : ∃ l, l = es ++ [(⟨n, x⟩ : Dcl)] := ⟨_, rfl⟩
      have hln : es2.length = es.length + 1 := by rw [hes2, List.length_append, List.length_singleton]
      rw [← hes2] at h13 hsn hr2
      replace hes2 := Aside0.mk hes2
      obtain ⟨eo, heo⟩ : ∃ b, b = entsOk es2 := ⟨_, rfl⟩
      have HEO := Aside0.mk (specEntsOk_calls A2 c2 es2 X hr2 hsn.2)
      rw [← heo, hln] at HEO
      replace heo := Aside0.mk heo
      obtain ⟨d0, d1, d2, _⟩ := h13.hd.cells
      clear hsn hr2 hl2 hl5 hln
      go_wp2_with fail
      refine (HEO.out).mono ?_
      rintro e w14 ⟨rfl, hb14⟩
      have h14 := h13.below hb14
      clear h13 hb14 d0 d1 d2
      go_wp2_with fail
      refine (HMu.out _ _ eo _ h14.rd).mono ?_
      rintro e w15 ⟨rfl, r15, m15⟩
      have h15 := h14.step r15 m15
      clear r15 m15 h14
      have hfin := Aside0.mk (show EnOut n0 base r g s name w0 vD es ds o w15 from
        ⟨_, _, _, es2, h15, by
          obtain ⟨l1, l2⟩ := (entity_law (a7 := b6) (q7 := q6 || !false) (q8 := q6 || !false || !eo) hhk.out hq1.out hn1.out hn2.out hq3.out hq4.out hv1.out hv2.out hx.out hok.out hq6.out rfl (by rw [hb6.out]; simp) (by rw [heo.out, hes2.out]))
          rw [ho.out, hes2.out]
          exact ⟨fun d nx e => by obtain ⟨e1, e2, e3⟩ := l1 d nx e; exact ⟨by rw [e1], e2, e3⟩, l2⟩⟩)
      clear h15
      go_wp2
      go_end0
      exact ⟨rfl, hfin.out⟩
    | true =>
      obtain ⟨rr, hrr⟩ : ∃ b, b = (!q6 && isAtB s ⟨#[62]⟩ b6) := ⟨_, rfl⟩
      have H9 := Aside0.mk (HIs.out _ _ _ h8.rd)
      rw [← hrr] at H9
      obtain ⟨a7, ha7⟩ : ∃ b : Int, b = (if rr = true then b6 + ((⟨#[62]⟩ : ByteArray).size : Int) else b6) := ⟨_, rfl⟩
      rw [← ha7] at H9
      rw [hrr] at ha7
      replace hrr := Aside0.mk hrr
      replace ha7 := Aside0.mk ha7
      go_wp2_with fail
      refine (H9.out).mono ?_
      rintro e w9 ⟨rfl, r9, m9⟩
      have h9 := h8.step r9 m9
      clear r9 m9 h8 H9
      go_wp2_with fail
      refine (HMu.out _ _ rr _ h9.rd).mono ?_
      rintro e w10 ⟨rfl, r10, m10⟩
      have h10 := h9.step r10 m10
      clear r10 m10 h9
      have hown' := Aside0.mk (own_below h10.hd.hE (below_alloc (Below.refl _ _) (.cells #[.string n, .string x] 57)))
      have hnews := Aside0.mk (pair_news w10 (.string n) (.string x) 57)
      have hle := h10.hd.le
      have h11 := Aside0.mk (h10.below (below_alloc (Below.refl _ _) (.cells #[.string n, .string x] 57)))
      obtain ⟨c0, c1, c2, f0, f1, f2⟩ := h10.hd.cells
      clear h10
      go_wp2_with (at_builtin; refine wpList_append_own_at _ rfl _ _ 24 rfl base 57 i _ 2 _ Tryz.underlying24 hi hz0 hz1 rfl hnz (by decide) _ _ _ rfl hown'.out ⟨w10.heap.size, 0, none⟩ 1 1 [.string n, .string x] rfl ?qc1 ?qc2 ?qc3 ?qc4 ?qc5 ?qc6 ?_)
      case qc1 => rfl
      case qc2 => exact hnews.out
      case qc3 => exact pair_one _ _
      case qc4 => unfold maxLen; omega
      case qc5 => rw [Hz2.out]; omega
      case qc6 => rw [World.alloc, Array.size_push]; omega
      intro v' w12 hown3 hgrow3 _ hat3
      have h13 := h11.out.addE hown3 hgrow3 (by rw [World.alloc, Array.size_push]; exact hat3)
      have hp := h11.out.pE hgrow3
      obtain ⟨p1, p2⟩ := hp
      clear hown3 hgrow3 hat3 c0 c1 c2 f0 f1 f2 h11 hown' hnews hle
      obtain ⟨A2, c2, hv2, hl2, hr2⟩ := h13.hd.ents
      rw [List.length_append, List.length_singleton] at hv2
      subst hv2
      go_upto_region 8 with fail
      obtain ⟨X, hX⟩ : ∃ X, X = w12.setCell ⟨g, 1, none⟩ (.slice A2 (es.length + 1) c2) := ⟨_, rfl⟩
      rw [← hX] at h13 hr2 ⊢
      clear hX p1 p2
      have hsn := ents_snoc (n := n) (x := x) HES.out hnn hxz
      have hl5 := hsn.1
      obtain ⟨es2, hes2⟩ : ∃ l, l = es ++ [(⟨n, x⟩ : Dcl)] := ⟨_, rfl⟩
      have hln : es2.length = es.length + 1 := by rw [hes2, List.length_append, List.length_singleton]
      rw [← hes2] at h13 hsn hr2
      replace hes2 := Aside0.mk hes2
      obtain ⟨eo, heo⟩ : ∃ b, b = entsOk es2 := ⟨_, rfl⟩
      have HEO := Aside0.mk (specEntsOk_calls A2 c2 es2 X hr2 hsn.2)
      rw [← heo, hln] at HEO
      replace heo := Aside0.mk heo
      obtain ⟨d0, d1, d2, _⟩ := h13.hd.cells
      clear hsn hr2 hl2 hl5 hln
      go_wp2_with fail
      refine (HEO.out).mono ?_
      rintro e w14 ⟨rfl, hb14⟩
      have h14 := h13.below hb14
      clear h13 hb14 d0 d1 d2
      go_wp2_with fail
      refine (HMu.out _ _ eo _ h14.rd).mono ?_
      rintro e w15 ⟨rfl, r15, m15⟩
      have h15 := h14.step r15 m15
      clear r15 m15 h14
      have hfin := Aside0.mk (show EnOut n0 base r g s name w0 vD es ds o w15 from
        ⟨_, _, _, es2, h15, by
          obtain ⟨l1, l2⟩ := (entity_law (a7 := a7) (q7 := q6 || !rr) (q8 := q6 || !rr || !eo) hhk.out hq1.out hn1.out hn2.out hq3.out hq4.out hv1.out hv2.out hx.out hok.out hq6.out (by rw [hrr.out, hb6.out]; rfl) (by rw [ha7.out, hb6.out]; rfl) (by rw [heo.out, hes2.out]))
          rw [ho.out, hes2.out]
          exact ⟨fun d nx e => by obtain ⟨e1, e2, e3⟩ := l1 d nx e; exact ⟨by rw [e1], e2, e3⟩, l2⟩⟩)
      clear h15
      go_wp2
      go_end0
      exact ⟨rfl, hfin.out⟩
end Go.Proofs.YtmfkdgdamepbcaaGreatDoor
end
section
/- The program's way through a head, in plain Lean. -/
namespace Go.Proofs.YtmfkdgdamepbcaaGreatDoor
open Go.RowKit Go.Lib
set_option linter.unusedVariables false
set_option linter.unusedSimpArgs false
set_option maxHeartbeats 8000000
set_option maxRecDepth 20000
theorem gap_b {s : ByteArray} {k : Nat} {q q' : Bool} (h : q' = (q || !decide (k < blanksN s k))) : (q = true → q' = true) ∧ (q = false → (gapO s k = some (blanksN s k) ∧ q' = false) ∨ (gapO s k = none ∧ q' = true)) := by
  have := (blanksN_le s k).1
  refine ⟨fun e => by rw [h, e]; rfl, fun e => ?_⟩
  rw [e] at h
  unfold gapO
  by_cases hk : blanksN s k = k
  · rw [decide_eq_false (by omega)] at h
    exact .inr ⟨if_pos hk, h⟩
  · rw [decide_eq_true (by omega)] at h
    exact .inl ⟨if_neg hk, h⟩
theorem name_b {s n : ByteArray} {k a : Nat} {q q' : Bool} (h : (n, a, q') = nameF s k q) : (q = true → q' = true) ∧ (q = false → (nameO s k = some (n, a) ∧ q' = false) ∨ (nameO s k = none ∧ q' = true)) := by
  refine ⟨fun e => ?_, fun e => ?_⟩
  · rw [e, nameF_bad] at h
    injection h with _ h; injection h with _ h
  · rw [e] at h
    cases hn : nameO s k with
    | none =>
      rw [nameF_none hn] at h
      injection h with _ h; injection h with _ h
      exact .inr ⟨rfl, h⟩
    | some p =>
      obtain ⟨n', k'⟩ := p
      rw [nameF_some hn] at h
      injection h with h1 h; injection h with h2 h
      rw [h1, h2]
      exact .inl ⟨rfl, h⟩
theorem quot_b {s v : ByteArray} {k a : Nat} {q q' : Bool} (h : (v, a, q') = quotF s k q) : (q = true → q' = true) ∧ (q = false → (quoO s k = some (v, a) ∧ q' = false) ∨ (quoO s k = none ∧ q' = true)) := by
  refine ⟨fun e => ?_, fun e => ?_⟩
  · rw [e] at h
    have := quot_bad s k
    rw [← h] at this
    exact this
  · rw [e] at h
    rcases quot_is s k with ⟨v', nx, h1, h2⟩ | ⟨h1, h2⟩
    · rw [h2] at h
      injection h with e1 e2; injection e2 with e2 e3
      rw [e1, e2]
      exact .inl ⟨h1, e3⟩
    · rw [← h] at h2
      exact .inr ⟨h1, h2⟩
theorem exp_b {v x : ByteArray} {es : List Dcl} {q q' : Bool} (h : (x, q') = expF v es q) : (q = true → q' = true) ∧ (q = false → (expandV v es = some x ∧ q' = false) ∨ (expandV v es = none ∧ q' = true)) := by
  refine ⟨fun e => ?_, fun e => ?_⟩
  · rw [e] at h
    have := expF_bad v es
    rw [← h] at this
    exact this
  · rw [e, expF] at h
    cases he : expandV v es with
    | none => rw [he] at h; injection h with _ h; exact .inr ⟨rfl, h⟩
    | some y => rw [he] at h; injection h with h1 h; rw [h1]; exact .inl ⟨rfl, h⟩
theorem must_b {s t : ByteArray} {k a : Nat} {q q' : Bool} (h : (a, q') = mustF s t k q) : (q = true → q' = true) ∧ (q = false → (isAtB s t (k : Nat) = true ∧ a = k + t.size ∧ q' = false) ∨ (isAtB s t (k : Nat) = false ∧ q' = true)) := by
  refine ⟨fun e => ?_, fun e => ?_⟩
  · rw [e, mustF_bad] at h
    injection h with _ h
  · rw [e] at h
    cases hi : isAtB s t (k : Nat) with
    | true => rw [mustF_hit hi] at h; injection h with h1 h2; exact .inl ⟨rfl, h1, h2⟩
    | false => rw [mustF_miss hi] at h; injection h with h1 h2; exact .inr ⟨rfl, h2⟩
theorem entity_i {s n v x : ByteArray} {k a2 a5 a8 : Nat} {es : List Dcl} {q1 q2 q3 q4 q5 q6 q8 q9 : Bool} (h1 : q1 = (false || !decide (k < blanksN s k))) (h2 : (n, a2, q2) = nameF s (blanksN s k) q1) (h3 : q3 = (q2 || !plainOk n)) (h4 : q4 = (q3 || !decide (a2 < blanksN s a2)))
    (h5 : (v, a5, q5) = quotF s (blanksN s a2) q4) (h6 : (x, q6) = expF v es q5) (h8 : (a8, q8) = mustF s ⟨#[62]⟩ (blanksN s a5) q6) (h9 : q9 = (q8 || !entsOk (es ++ [⟨n, x⟩]))) :
    (q9 = false ∧ entO s k es = some (⟨n, x⟩, a8)) ∨ (q9 = true ∧ entO s k es = none) := by
  have m8 : q8 = true → q9 = true := fun e => by rw [h9, e]; rfl
  have m6 := fun e => m8 ((must_b h8).1 e)
  have m5 := fun e => m6 ((exp_b h6).1 e)
  have m4 := fun e => m5 ((quot_b h5).1 e)
  have m3 := fun e => m4 ((gap_b h4).1 e)
  have m2 : q2 = true → q9 = true := fun e => m3 (by rw [h3, e]; rfl)
  have m1 := fun e => m2 ((name_b h2).1 e)
  unfold entO
  rcases (gap_b h1).2 rfl with ⟨g, e⟩ | ⟨g, e⟩
  case inr => rw [g]; exact .inr ⟨m1 e, rfl⟩
  rw [g]
  simp only [Option.bind_some]
  rcases (name_b h2).2 e with ⟨g, e⟩ | ⟨g, e⟩
  case inr => rw [g]; exact .inr ⟨m2 e, rfl⟩
  rw [g]
  simp only [Option.bind_some]
  cases hp : plainOk n with
  | false =>
    rw [hp] at h3
    rw [if_neg (by decide)]
    exact .inr ⟨m3 (by rw [h3]; simp), rfl⟩
  | true =>
  rw [hp, e] at h3
  rw [if_pos rfl]
  rcases (gap_b h4).2 h3 with ⟨g, e⟩ | ⟨g, e⟩
  case inr => rw [g]; exact .inr ⟨m4 e, rfl⟩
  rw [g]
  simp only [Option.bind_some]
  rcases (quot_b h5).2 e with ⟨g, e⟩ | ⟨g, e⟩
  case inr => rw [g]; exact .inr ⟨m5 e, rfl⟩
  rw [g]
  simp only [Option.bind_some]
  rcases (exp_b h6).2 e with ⟨g, e⟩ | ⟨g, e⟩
  case inr => rw [g]; exact .inr ⟨m6 e, rfl⟩
  rw [g]
  simp only [Option.bind_some]
  rcases (must_b h8).2 e with ⟨g, e0, e⟩ | ⟨g, e⟩
  case inr => rw [if_neg (by rw [g]; simp)]; exact .inr ⟨m8 e, rfl⟩
  have e0 : a8 = blanksN s a5 + 1 := e0
  cases ho : entsOk (es ++ [⟨n, x⟩]) with
  | false =>
    rw [ho] at h9
    rw [if_neg (by simp)]
    exact .inr ⟨by rw [h9]; simp, rfl⟩
  | true =>
    rw [ho, e] at h9
    rw [if_pos ⟨g, rfl⟩, e0]
    exact .inl ⟨h9, rfl⟩
/-- The kind of a Def: CDATA, or ID. -/
theorem kind_b {s : ByteArray} {k a a' : Nat} {r q q' : Bool} (h : (r, a) = takeF s ⟨#[67, 68, 65, 84, 65]⟩ k q) (h2 : (a', q') = if r = true then (a, q) else mustF s ⟨#[73, 68]⟩ a q) :
    (q = true → q' = true) ∧ (q = false → (kindO s k = some (!r, a') ∧ q' = false) ∨ (kindO s k = none ∧ q' = true)) := by
  refine ⟨fun e => ?_, fun e => ?_⟩
  · rw [e, takeF_bad] at h
    injection h with h3 h4
    rw [h3, if_neg (by decide)] at h2
    exact (must_b h2).1 e
  · unfold kindO
    rw [e] at h
    cases hi : isAtB s ⟨#[67, 68, 65, 84, 65]⟩ (k : Nat) with
    | true =>
      rw [takeF_hit hi] at h
      injection h with h3 h4
      rw [h3, if_pos rfl] at h2
      injection h2 with h5 h6
      rw [if_pos rfl, h5, h4, h3]
      exact .inl ⟨rfl, by rw [h6, e]⟩
    | false =>
      rw [takeF_miss hi] at h
      injection h with h3 h4
      subst h3 h4
      rw [if_neg (by decide)] at h2 ⊢
      rcases (must_b h2).2 e with ⟨g, e0, e⟩ | ⟨g, e⟩
      · rw [if_pos g, e0]
        exact .inl ⟨rfl, e⟩
      · rw [if_neg (by rw [g]; decide)]
        exact .inr ⟨rfl, e⟩
theorem hasDf_bool (ds : List Df) (el n : ByteArray) (q : Bool) : (if hasDf ds el n = true ∨ ¬ ds.length + 1 ≤ 6 then true else q) = (q || hasDf ds el n || !decide (ds.length + 1 ≤ 6)) := by
  cases hasDf ds el n with
  | true => simp
  | false => by_cases h : ds.length + 1 ≤ 6 <;> simp [h]
/-- A Def with a value. -/
theorem def_i {s el n v x : ByteArray} {k a2 a4 a5 a7 a8 : Nat} {es : List Dcl} {ds : List Df} {r i q2 q3 q5 q6 q7 q8 q9 q10 : Bool} (h2 : (n, a2, q2) = nameF s k false) (h3 : q3 = (q2 || !decide (a2 < blanksN s a2)))
    (h4 : (r, a4) = takeF s ⟨#[67, 68, 65, 84, 65]⟩ (blanksN s a2) q3) (h5 : (a5, q5) = if r = true then (a4, q3) else mustF s ⟨#[73, 68]⟩ a4 q3) (h6 : q6 = (q5 || !decide (a5 < blanksN s a5)))
    (h7 : (i, a7) = takeF s ⟨#[35, 73, 77, 80, 76, 73, 69, 68]⟩ (blanksN s a5) q6) (hi : i = false) (h8 : (v, a8, q8) = quotF s a7 (q6 || !r)) (h9 : (x, q9) = expF (spacedB v) es q8) (h10 : q10 = (q9 || hasDf ds el n || !decide (ds.length + 1 ≤ 6))) :
    (q10 = false ∧ defO s k el es ds = some (⟨el, n, !r, true, x⟩, a8)) ∨ (q10 = true ∧ defO s k el es ds = none) := by
  have m9 : q9 = true → q10 = true := fun e => by rw [h10, e]; rfl
  have m8 := fun e => m9 ((exp_b h9).1 e)
  have m7 := fun e => m8 ((quot_b h8).1 e)
  have m6 : q6 = true → q10 = true := fun e => m7 (by rw [e]; rfl)
  have m5 := fun e => m6 ((gap_b h6).1 e)
  have m3 := fun e => m5 ((kind_b h4 h5).1 e)
  have m2 := fun e => m3 ((gap_b h3).1 e)
  unfold defO
  rcases (name_b h2).2 rfl with ⟨g, e⟩ | ⟨g, e⟩
  case inr => rw [g]; exact .inr ⟨m2 e, rfl⟩
  rw [g]
  simp only [Option.bind_some]
  rcases (gap_b h3).2 e with ⟨g, e⟩ | ⟨g, e⟩
  case inr => rw [g]; exact .inr ⟨m3 e, rfl⟩
  rw [g]
  simp only [Option.bind_some]
  rcases (kind_b h4 h5).2 e with ⟨g, e⟩ | ⟨g, e⟩
  case inr => rw [g]; exact .inr ⟨m5 e, rfl⟩
  rw [g]
  simp only [Option.bind_some]
  rcases (gap_b h6).2 e with ⟨g, e⟩ | ⟨g, e⟩
  case inr => rw [g]; exact .inr ⟨m6 e, rfl⟩
  rw [g]
  simp only [Option.bind_some]
  rw [e] at h7 h8
  unfold dfltO
  cases him : isAtB s ⟨#[35, 73, 77, 80, 76, 73, 69, 68]⟩ (blanksN s a5 : Nat) with
  | true =>
    rw [takeF_hit him] at h7
    injection h7 with h7
    rw [hi] at h7
    cases h7
  | false =>
  rw [takeF_miss him] at h7
  injection h7 with _ h7
  subst h7
  rw [if_neg (by decide)]
  cases r with
  | false =>
    rw [if_pos (show (!false) = true from rfl)]
    exact .inr ⟨m7 (by simp), rfl⟩
  | true =>
  rw [if_neg (show ¬ (!true) = true by decide)]
  rcases (quot_b h8).2 rfl with ⟨g, e⟩ | ⟨g, e⟩
  case inr => rw [g]; exact .inr ⟨m8 e, rfl⟩
  rw [g]
  simp only [Option.bind_some]
  rcases (exp_b h9).2 e with ⟨g, e⟩ | ⟨g, e⟩
  case inr => rw [g]; exact .inr ⟨m9 e, rfl⟩
  rw [g]
  simp only [Option.map_some, Option.bind_some]
  rw [e, ← hasDf_bool] at h10
  by_cases hc : hasDf ds el n = true ∨ ¬ ds.length + 1 ≤ 6
  · rw [if_pos hc] at h10 ⊢
    exact .inr ⟨h10, rfl⟩
  · rw [if_neg hc] at h10 ⊢
    exact .inl ⟨h10, rfl⟩
/-- A Def with none. -/
theorem def_j {s el n : ByteArray} {k a2 a4 a5 a7 : Nat} {es : List Dcl} {ds : List Df} {r i q2 q3 q5 q6 q10 : Bool} (h2 : (n, a2, q2) = nameF s k false) (h3 : q3 = (q2 || !decide (a2 < blanksN s a2)))
    (h4 : (r, a4) = takeF s ⟨#[67, 68, 65, 84, 65]⟩ (blanksN s a2) q3) (h5 : (a5, q5) = if r = true then (a4, q3) else mustF s ⟨#[73, 68]⟩ a4 q3) (h6 : q6 = (q5 || !decide (a5 < blanksN s a5)))
    (h7 : (i, a7) = takeF s ⟨#[35, 73, 77, 80, 76, 73, 69, 68]⟩ (blanksN s a5) q6) (hi : i = true) (h10 : q10 = (q6 || hasDf ds el n || !decide (ds.length + 1 ≤ 6))) :
    (q10 = false ∧ defO s k el es ds = some (⟨el, n, !r, false, ⟨#[]⟩⟩, a7)) ∨ (q10 = true ∧ defO s k el es ds = none) := by
  subst hi
  have hq6 : q6 = false ∧ isAtB s ⟨#[35, 73, 77, 80, 76, 73, 69, 68]⟩ (blanksN s a5 : Nat) = true ∧ a7 = blanksN s a5 + 8 := by
    cases q6 with
    | true => rw [takeF_bad] at h7; injection h7 with h7; cases h7
    | false =>
      cases him : isAtB s ⟨#[35, 73, 77, 80, 76, 73, 69, 68]⟩ (blanksN s a5 : Nat) with
      | true => rw [takeF_hit him] at h7; injection h7 with _ h7; exact ⟨rfl, rfl, h7⟩
      | false => rw [takeF_miss him] at h7; injection h7 with h7; cases h7
  obtain ⟨hq6, him, ha7⟩ := hq6
  subst hq6
  have hq5 : q5 = false := by cases q5 with | false => rfl | true => exact absurd ((gap_b h6).1 rfl) (by decide)
  subst hq5
  have hq3 : q3 = false := by cases q3 with | false => rfl | true => exact absurd ((kind_b h4 h5).1 rfl) (by decide)
  subst hq3
  have hq2 : q2 = false := by cases q2 with | false => rfl | true => exact absurd ((gap_b h3).1 rfl) (by decide)
  subst hq2
  unfold defO
  rcases (name_b h2).2 rfl with ⟨g, e⟩ | ⟨g, e⟩
  case inr => cases e
  rw [g]
  simp only [Option.bind_some]
  rcases (gap_b h3).2 e with ⟨g, e⟩ | ⟨g, e⟩
  case inr => cases e
  rw [g]
  simp only [Option.bind_some]
  rcases (kind_b h4 h5).2 e with ⟨g, e⟩ | ⟨g, e⟩
  case inr => cases e
  rw [g]
  simp only [Option.bind_some]
  rcases (gap_b h6).2 e with ⟨g, e⟩ | ⟨g, e⟩
  case inr => cases e
  rw [g]
  simp only [Option.bind_some]
  unfold dfltO
  rw [if_pos him]
  simp only [Option.bind_some]
  rw [← hasDf_bool] at h10
  by_cases hc : hasDf ds el n = true ∨ ¬ ds.length + 1 ≤ 6
  · rw [if_pos hc] at h10 ⊢
    exact .inr ⟨h10, rfl⟩
  · rw [if_neg hc] at h10 ⊢
    rw [ha7]
    exact .inl ⟨h10, rfl⟩
/-- A round of a list goes on. -/
theorem list_on {s el : ByteArray} {es : List Dcl} {ds : List Df} {k b : Nat} (hk : k ≤ s.size) (hb : b = blanksN s k) (hkb : k < b) (hn : b < nameEnd s b) : listN s el es k ds = (defO s b el es ds).bind fun q => listN s el es q.2 (ds ++ [q.1]) := by
  have h62 : isAtB s ⟨#[62]⟩ (b : Nat) = false := by
    cases e : isAtB s ⟨#[62]⟩ (b : Nat) with
    | false => rfl
    | true => have := name_not e (by decide) (by decide) (by decide); omega
  rw [listN_at hk, ← hb, h62, if_neg (by decide), gapO, ← hb, if_neg (by omega)]
  rfl
theorem nameO_none {s : ByteArray} {b : Nat} (hn : ¬ b < nameEnd s b) : nameO s b = none := by
  have : nameEnd s b = b := by have := (nameEnd_le s b).1; omega
  rw [nameO, this, ext_none, split_nil]; rfl
theorem list_end {s el : ByteArray} {es : List Dcl} {ds : List Df} {k b a3 : Nat} {q3 : Bool} (hk : k ≤ s.size) (hb : b = blanksN s k) (hor : b = k ∨ ¬ b < nameEnd s b) (h : (a3, q3) = mustF s ⟨#[62]⟩ b false) :
    (q3 = false ∧ listN s el es k ds = some (ds, a3)) ∨ (q3 = true ∧ listN s el es k ds = none) := by
  rw [listN_at hk, ← hb]
  rcases (must_b h).2 rfl with ⟨g, e0, e⟩ | ⟨g, e⟩
  · rw [if_pos g]
    exact .inl ⟨e, by rw [e0]; rfl⟩
  · rw [if_neg (by rw [g]; decide)]
    refine .inr ⟨e, ?_⟩
    rw [gapO, ← hb]
    rcases hor with hor | hor
    · rw [if_pos hor]; rfl
    · split
      · rfl
      · simp only [Option.bind_some]
        rw [defO, nameO_none hor]; rfl
/-- What stands behind <!ATTLIST, of the program. -/
theorem list_start {s n : ByteArray} {k a2 : Nat} {es : List Dcl} {ds : List Df} {q1 q2 : Bool} (h1 : q1 = (false || !decide (k < blanksN s k))) (h2 : (n, a2, q2) = nameF s (blanksN s k) q1) :
    (q2 = false ∧ listO s k es ds = listN s n es a2 ds) ∨ (q2 = true ∧ listO s k es ds = none) := by
  unfold listO
  rcases (gap_b h1).2 rfl with ⟨g, e⟩ | ⟨g, e⟩
  case inr => rw [g]; exact .inr ⟨(name_b h2).1 e, rfl⟩
  rw [g]
  simp only [Option.bind_some]
  rcases (name_b h2).2 e with ⟨g, e⟩ | ⟨g, e⟩
  case inr => rw [g]; exact .inr ⟨e, rfl⟩
  rw [g]
  exact .inl ⟨e, rfl⟩
/-- A note is a mark. -/
def noteM (o : Option (Mk × Nat)) : Option Nat := o.bind fun q => if q.1.kind = 4 ∧ noteOk q.1.text = true then some q.2 else none
theorem toldO_kind {s : ByteArray} {a : Nat} {q : Mk × Nat} (h : toldO s a = some q) : q.1.kind = 5 := by
  unfold toldO at h
  cases e : nameO s a with
  | none => rw [e] at h; cases h
  | some p =>
    rw [e] at h
    simp only [Option.bind_some] at h
    split at h
    · injection h with h; rw [← h]
    · split at h
      · cases h
      · cases e2 : toO s ⟨#[63, 62]⟩ (blanksN s p.2) with
        | none => rw [e2] at h; cases h
        | some p2 => rw [e2] at h; simp only [Option.map_some] at h; injection h with h; rw [← h]
theorem closeO_kind {s : ByteArray} {a : Nat} {q : Mk × Nat} (h : closeO s a = some q) : q.1.kind = 2 := by
  unfold closeO at h
  cases e : nameO s a with
  | none => rw [e] at h; cases h
  | some p =>
    rw [e] at h
    simp only [Option.bind_some] at h
    split at h
    · injection h with h; rw [← h]
    · cases h
theorem plainO_kind {s t : ByteArray} {a : Nat} {kd : Int} {q : Mk × Nat} (h : plainO kd s t a = some q) : q.1.kind = kd := by
  unfold plainO at h
  cases e : toO s t a with
  | none => rw [e] at h; cases h
  | some p => rw [e] at h; simp only [Option.map_some] at h; injection h with h; rw [← h]
theorem textO_kind {s : ByteArray} {a : Nat} {l : List Dcl} {q : Mk × Nat} (h : textO s a l = some q) : q.1.kind = 3 := by
  unfold textO at h
  split at h
  · cases h
  · cases e : expandV (s.extract a (ltN s a)) l with
    | none => rw [e] at h; cases h
    | some p => rw [e] at h; simp only [Option.map_some] at h; injection h with h; rw [← h]
theorem opGo_kind (s : ByteArray) (l : List Dcl) (n : ByteArray) : ∀ (f k : Nat) (rs : List Dcl) (q : Mk × Nat), opGo s l n f k rs = some q → q.1.kind = 1
  | 0, _, _, _, h => by cases h
  | f + 1, k, rs, q, h => by
    rw [opGo] at h
    split at h
    · injection h with h; rw [← h]
    · split at h
      · injection h with h; rw [← h]
      · split at h
        · cases h
        · cases e : rawO s (blanksN s k) l with
          | none => rw [e] at h; cases h
          | some p => rw [e] at h; exact opGo_kind s l n f p.2 (rs ++ [p.1]) q h
theorem openO_kind {s : ByteArray} {a : Nat} {l : List Dcl} {q : Mk × Nat} (h : openO s a l = some q) : q.1.kind = 1 := by
  unfold openO at h
  cases e : nameO s a with
  | none => rw [e] at h; cases h
  | some p => rw [e] at h; exact opGo_kind s l p.1 _ _ _ q h
theorem ents_nil : entsOk [] = true := by decide
theorem note_mark {s : ByteArray} {b : Nat} (hb : b ≤ s.size) : noteM (markO s (b : Nat) []) = if isAtB s ⟨#[60, 33, 45, 45]⟩ (b : Nat) = true then hnoteO s (b + 4) else none := by
  unfold markO
  by_cases hi : isAtB s ⟨#[60, 33, 45, 45]⟩ (b : Nat) = true
  · have := isAt_room hi
    have h4 : (⟨#[60, 33, 45, 45]⟩ : ByteArray).size = 4 := rfl
    rw [if_pos hi, if_pos ⟨by omega, by omega, ents_nil⟩, Int.toNat_natCast, mkO, if_pos hi, plainO, hnoteO]
    cases e : toO s ⟨#[45, 45, 62]⟩ (b + 4) with
    | none => rfl
    | some p =>
      simp only [Option.map_some, Option.bind_some]
      cases hn : noteOk p.1 with
      | true =>
        have ht : textOk p.1 = true := by
          unfold noteOk at hn
          cases ht : textOk p.1 with
          | true => rfl
          | false => rw [ht] at hn; simp at hn
        rw [if_pos ht]
        simp [noteM, hn]
      | false =>
        split
        · simp [noteM, hn]
        · simp [noteM]
  · rw [if_neg hi]
    have hk : ∀ q, mkO s (b : Int).toNat [] = some q → ¬ q.1.kind = 4 := by
      intro q h
      rw [Int.toNat_natCast, mkO, if_neg hi] at h
      split at h
      · rw [toldO_kind h]; decide
      · split at h
        · rw [closeO_kind h]; decide
        · split at h
          · rw [plainO_kind h]; decide
          · split at h
            · rw [openO_kind h]; decide
            · rw [textO_kind h]; decide
    split
    · cases e : mkO s (b : Int).toNat [] with
      | none => rfl
      | some q =>
        simp only [Option.bind_some]
        split
        · simp [noteM, hk q e]
        · rfl
    · rfl
theorem excl {s t u : ByteArray} {k i : Nat} (hi : i < t.size) (hj : i < u.size) (hne : ¬ t.data.toList[i]? = u.data.toList[i]?) (h : isAtB s t (k : Nat) = true) (hk : k ≤ s.size) : isAtB s u (k : Nat) = false := by
  cases e : isAtB s u (k : Nat) with
  | false => rfl
  | true =>
    rw [isAt_occ hk] at h e
    simp only [occAt, List.isPrefixOf_iff_prefix] at h e
    obtain ⟨x, hx⟩ := h
    obtain ⟨y, hy⟩ := e
    have h1 := List.getElem?_append_left (l₂ := x) (i := i) (l₁ := t.data.toList) (by rw [str_size]; exact hi)
    have h2 := List.getElem?_append_left (l₂ := y) (i := i) (l₁ := u.data.toList) (by rw [str_size]; exact hj)
    rw [hx] at h1
    rw [hy] at h2
    exact absurd (h1.symm.trans h2) hne
/-- A round of the items, as the program asks. -/
theorem items_i {s : ByteArray} {k b : Nat} {es : List Dcl} {ds : List Df} (hk : k ≤ s.size) (hb : b = blanksN s k) : itemsN s k es ds =
    if isAtB s ⟨#[93]⟩ (b : Nat) = true then some (es, ds, b + 1)
    else if isAtB s ⟨#[60, 33, 69, 78, 84, 73, 84, 89]⟩ (b : Nat) = true then (entO s (b + 8) es).bind fun q => itemsN s q.2 (es ++ [q.1]) ds
    else if isAtB s ⟨#[60, 33, 65, 84, 84, 76, 73, 83, 84]⟩ (b : Nat) = true then (listO s (b + 9) es ds).bind fun q => itemsN s q.2 es q.1
    else (noteM (markO s (b : Nat) [])).bind fun p => itemsN s p es ds := by
  have hbs : b ≤ s.size := by rw [hb]; exact (blanksN_le s k).2 hk
  rw [itemsN_at hk, ← hb, note_mark hbs]
  cases h1 : isAtB s ⟨#[60, 33, 45, 45]⟩ (b : Nat) with
  | true =>
    have h2 := excl (u := ⟨#[60, 33, 69, 78, 84, 73, 84, 89]⟩) (i := 2) (by decide) (by decide) (by decide) h1 hbs
    have h3 := excl (u := ⟨#[60, 33, 65, 84, 84, 76, 73, 83, 84]⟩) (i := 2) (by decide) (by decide) (by decide) h1 hbs
    rw [h2, h3]
    simp
  | false => simp
end Go.Proofs.YtmfkdgdamepbcaaGreatDoor
end
section
/- The reference's way through a Def, in plain Lean. -/
namespace Go.Proofs.YtmfkdgdamepbcaaGreatDoor
open Go.RowKit Go.Lib
set_option linter.unusedVariables false
set_option linter.unusedSimpArgs false
set_option maxHeartbeats 8000000
set_option maxRecDepth 100000
theorem kind_is (s : ByteArray) (k : Nat) : (∃ id k2, kindO s k = some (id, k2) ∧ isAtB s ⟨#[73, 68]⟩ (k : Nat) = id ∧ (id = true → k2 = k + 2) ∧ (id = false → isAtB s ⟨#[67, 68, 65, 84, 65]⟩ (k : Nat) = true ∧ k2 = k + 5)) ∨
    (kindO s k = none ∧ isAtB s ⟨#[73, 68]⟩ (k : Nat) = false ∧ isAtB s ⟨#[67, 68, 65, 84, 65]⟩ (k : Nat) = false) := by
  have hex : isAtB s ⟨#[67, 68, 65, 84, 65]⟩ (k : Nat) = true → isAtB s ⟨#[73, 68]⟩ (k : Nat) = false := by
    intro h
    have h5 : k + 5 ≤ s.size := isAt_room h
    exact excl (u := ⟨#[73, 68]⟩) (i := 0) (by decide) (by decide) (by decide) h (by omega)
  unfold kindO
  cases h1 : isAtB s ⟨#[67, 68, 65, 84, 65]⟩ (k : Nat) with
  | true => exact .inl ⟨false, k + 5, rfl, hex h1, (fun e => by cases e), fun _ => ⟨rfl, rfl⟩⟩
  | false =>
    cases h2 : isAtB s ⟨#[73, 68]⟩ (k : Nat) with
    | true => exact .inl ⟨true, k + 2, rfl, rfl, (fun _ => rfl), fun e => by cases e⟩
    | false => exact .inr ⟨rfl, rfl, rfl⟩
theorem gap_q {s : ByteArray} {k : Nat} {q q' : Bool} (h : q' = (q || !decide ((1 : Int) ≤ blanksI s (k : Nat) - (k : Nat)))) : (q = true → q' = true) ∧ (q = false → (gapO s k = some (blanksN s k) ∧ q' = false) ∨ (gapO s k = none ∧ q' = true)) := by
  refine ⟨fun e => by rw [h, e]; rfl, fun e => ?_⟩
  rw [e] at h
  rcases gap_is s k with ⟨g1, d1⟩ | ⟨g1, d1⟩
  · rw [d1] at h; exact .inl ⟨g1, h⟩
  · rw [d1] at h; exact .inr ⟨g1, h⟩
def dfX (s : ByteArray) (b3 : Nat) (el n : ByteArray) (id : Bool) (es : List Dcl) (ds : List Df) : Option (Df × Nat) :=
  (dfltO s b3 id es).bind fun d => if hasDf ds el n = true ∨ ¬ ds.length + 1 ≤ 6 then none else some (⟨el, n, id, d.1, d.2.1⟩, d.2.2)
/-- Up to the blanks behind the kind. -/
theorem def_law1 {s n el : ByteArray} {k : Nat} {es : List Dcl} {ds : List Df} {a2 a4 a5 : Int} {q1 q2 q3 q5 q6 id : Bool} (hk : k ≤ s.size)
    (h1 : q1 = (false || !decide ((1 : Int) ≤ blanksI s (k : Nat) - (k : Nat))))
    (h2 : q1 = false → ∀ n' k', nameI s (blanksI s (k : Nat)) = some (n', k') → n = n' ∧ a2 = (k' : Nat) ∧ q2 = false) (h2b : q1 = true ∨ nameI s (blanksI s (k : Nat)) = none → q2 = true)
    (h3 : q3 = (q2 || !decide ((1 : Int) ≤ blanksI s a2 - a2)))
    (h4 : id = (!q3 && isAtB s ⟨#[73, 68]⟩ (blanksI s a2))) (h4a : a4 = if id = true then blanksI s a2 + 2 else blanksI s a2)
    (h5 : q5 = (q3 || !(id || (!q3 && isAtB s ⟨#[67, 68, 65, 84, 65]⟩ a4)))) (h5a : a5 = if (!id && (!q3 && isAtB s ⟨#[67, 68, 65, 84, 65]⟩ a4)) = true then a4 + 5 else a4)
    (h6 : q6 = (q5 || !decide ((1 : Int) ≤ blanksI s a5 - a5))) :
    (∃ b3 : Nat, ((gapO s k).bind fun b => defO s b el es ds) = dfX s b3 el n id es ds ∧ blanksI s a5 = (b3 : Nat) ∧ b3 ≤ s.size ∧ q6 = false) ∨
    (((gapO s k).bind fun b => defO s b el es ds) = none ∧ q6 = true) := by
  have m6 : q5 = true → q6 = true := fun e => by rw [h6, e]; rfl
  have m5 : q3 = true → q6 = true := fun e => m6 (by rw [h5, e]; rfl)
  have m3 : q2 = true → q6 = true := fun e => m5 (by rw [h3, e]; rfl)
  rcases (gap_q h1).2 rfl with ⟨g1, e1⟩ | ⟨g1, e1⟩
  · rw [g1]
    simp only [Option.bind_some]
    have bl := (blanksN_le s k).2 hk
    rw [blanksI_nat, nameI_nat bl] at h2 h2b
    unfold defO
    cases hn : nameO s (blanksN s k) with
    | none => exact .inr ⟨rfl, m3 (h2b (.inr hn))⟩
    | some p =>
      obtain ⟨n1, k1⟩ := p
      obtain ⟨e2, e3, e4⟩ := h2 e1 n1 k1 hn
      subst e2 e3 e4
      have hk1 := nameO_next bl hn
      simp only [Option.bind_some]
      rcases (gap_q h3).2 rfl with ⟨g2, e5⟩ | ⟨g2, e5⟩
      · rw [g2]
        simp only [Option.bind_some]
        subst e5
        have bl2 := (blanksN_le s k1).2 (by omega)
        rw [blanksI_nat] at h4 h4a
        simp only [Bool.not_false, Bool.true_and, Bool.false_or] at h4 h5 h5a
        rcases kind_is s (blanksN s k1) with ⟨id', k2, hk2, hid, hyes, hno⟩ | ⟨hk2, hid, hcd⟩
        · rw [hk2]
          simp only [Option.bind_some]
          have hkn := kindO_next hk2
          rw [hid] at h4
          subst h4
          have ha5 : a5 = (k2 : Nat) ∧ q5 = false := by
            cases id with
            | true =>
              have := hyes rfl
              simp at h4a h5 h5a
              exact ⟨by rw [h5a, h4a, this]; omega, h5⟩
            | false =>
              obtain ⟨hc, this⟩ := hno rfl
              simp only [Bool.false_eq_true, if_false] at h4a
              subst h4a
              rw [hc] at h5 h5a
              simp at h5 h5a
              exact ⟨by rw [h5a, this]; omega, h5⟩
          obtain ⟨ha5, hq5⟩ := ha5
          subst ha5
          rcases (gap_q h6).2 hq5 with ⟨g3, e6⟩ | ⟨g3, e6⟩
          · rw [g3]
            simp only [Option.bind_some]
            exact .inl ⟨blanksN s k2, rfl, blanksI_nat k2, (blanksN_le s k2).2 (by omega), e6⟩
          · rw [g3]
            exact .inr ⟨rfl, e6⟩
        · rw [hk2]
          rw [hid] at h4
          subst h4
          simp only [Bool.false_eq_true, if_false] at h4a
          subst h4a
          rw [hcd] at h5
          exact .inr ⟨rfl, m6 (by rw [h5]; rfl)⟩
      · rw [g2]
        exact .inr ⟨rfl, m5 e5⟩
  · rw [g1]
    exact .inr ⟨rfl, m3 (h2b (.inl e1))⟩
/-- With a value. -/
theorem def_law2 {s n el v x : ByteArray} {b3 : Nat} {es : List Dcl} {ds : List Df} {a8 : Int} {q8 q9 q10 id ok : Bool} (hi : isAtB s ⟨#[35, 73, 77, 80, 76, 73, 69, 68]⟩ (b3 : Nat) = false)
    (h8 : ∀ v' k', (if id = true then none else quoO s b3) = some (v', k') → v = v' ∧ a8 = (k' : Nat) ∧ q8 = false) (h8b : (if id = true then none else quoO s b3) = none → q8 = true)
    (hx : x = expX (expandV (spacedB v) es)) (hok : ok = (expandV (spacedB v) es).isSome)
    (h9 : q9 = (q8 || !ok)) (h10 : q10 = (q9 || !(!hasDf ds el n && decide (ds.length + 1 ≤ 6)))) :
    (∀ d nx, ((dfltO s b3 id es).bind fun d => if hasDf ds el n = true ∨ ¬ ds.length + 1 ≤ 6 then none else some ((⟨el, n, id, d.1, d.2.1⟩ : Df), d.2.2)) = some (d, nx) → d = ⟨el, n, id, true, x⟩ ∧ a8 = (nx : Nat) ∧ q10 = false) ∧
    (((dfltO s b3 id es).bind fun d => if hasDf ds el n = true ∨ ¬ ds.length + 1 ≤ 6 then none else some ((⟨el, n, id, d.1, d.2.1⟩ : Df), d.2.2)) = none → q10 = true) := by
  have m : q8 = true → q10 = true := fun e => by rw [h10, h9, e]; rfl
  unfold dfltO
  rw [if_neg (by rw [hi]; decide)]
  cases id with
  | true => exact ⟨fun d nx e => (by cases e), fun _ => m (h8b rfl)⟩
  | false =>
    rw [if_neg (by decide)] at h8 h8b ⊢
    cases hv : quoO s b3 with
    | none => exact ⟨fun d nx e => (by cases e), fun _ => m (h8b hv)⟩
    | some p =>
      obtain ⟨v1, k2⟩ := p
      obtain ⟨e1, e2, e3⟩ := h8 v1 k2 hv
      subst e1 e2 e3
      simp only [Option.bind_some]
      cases hxv : expandV (spacedB v) es with
      | none =>
        rw [hxv] at hok
        have hok : ok = false := hok
        subst hok
        refine ⟨fun d nx e => (by cases e), fun _ => ?_⟩
        rw [h10, h9]; rfl
      | some y =>
        rw [hxv] at hok hx
        have hok : ok = true := hok
        have hx : x = y := hx
        subst hok hx
        have h9 : q9 = false := h9
        subst h9
        simp only [Option.map_some, Option.bind_some]
        by_cases hc : hasDf ds el n = true ∨ ¬ ds.length + 1 ≤ 6
        · rw [if_pos hc]
          refine ⟨fun d nx e => (by cases e), fun _ => ?_⟩
          rw [h10]
          rcases hc with hc | hc
          · rw [hc]; rfl
          · rw [decide_eq_false hc]; simp
        · rw [if_neg hc]
          refine ⟨fun d nx e => ?_, fun e => by cases e⟩
          injection e with e
          injection e with e1 e2
          have hc1 : hasDf ds el n = false := by cases h : hasDf ds el n with | true => exact absurd (.inl h) hc | false => rfl
          have hc2 : ds.length + 1 ≤ 6 := Decidable.byContradiction fun h => hc (.inr h)
          exact ⟨e1.symm, by rw [e2], by rw [h10, hc1, decide_eq_true hc2]; rfl⟩
/-- With none. -/
theorem def_law3 {s n el : ByteArray} {b3 : Nat} {es : List Dcl} {ds : List Df} {q10 id : Bool} (hi : isAtB s ⟨#[35, 73, 77, 80, 76, 73, 69, 68]⟩ (b3 : Nat) = true)
    (h10 : q10 = (false || !(!hasDf ds el n && decide (ds.length + 1 ≤ 6)))) :
    (∀ d nx, ((dfltO s b3 id es).bind fun d => if hasDf ds el n = true ∨ ¬ ds.length + 1 ≤ 6 then none else some ((⟨el, n, id, d.1, d.2.1⟩ : Df), d.2.2)) = some (d, nx) → d = ⟨el, n, id, false, ⟨#[]⟩⟩ ∧ (b3 : Int) + 8 = (nx : Nat) ∧ q10 = false) ∧
    (((dfltO s b3 id es).bind fun d => if hasDf ds el n = true ∨ ¬ ds.length + 1 ≤ 6 then none else some ((⟨el, n, id, d.1, d.2.1⟩ : Df), d.2.2)) = none → q10 = true) := by
  unfold dfltO
  rw [if_pos hi]
  simp only [Option.bind_some]
  by_cases hc : hasDf ds el n = true ∨ ¬ ds.length + 1 ≤ 6
  · rw [if_pos hc]
    refine ⟨fun d nx e => (by cases e), fun _ => ?_⟩
    rw [h10]
    rcases hc with hc | hc
    · rw [hc]; rfl
    · rw [decide_eq_false hc]; simp
  · rw [if_neg hc]
    refine ⟨fun d nx e => ?_, fun e => by cases e⟩
    injection e with e
    injection e with e1 e2
    have hc1 : hasDf ds el n = false := by cases h : hasDf ds el n with | true => exact absurd (.inl h) hc | false => rfl
    have hc2 : ds.length + 1 ≤ 6 := Decidable.byContradiction fun h => hc (.inr h)
    exact ⟨e1.symm, by rw [← e2]; omega, by rw [h10, hc1, decide_eq_true hc2]; rfl⟩
/-- With a value, whatever came ahead. -/
theorem def_val {s n el v x : ByteArray} {B a8 : Int} {es : List Dcl} {ds : List Df} {q6 q7 q8 q9 q10 id ok : Bool} {O0 : Option (Df × Nat)} (H : (∃ b3 : Nat, O0 = dfX s b3 el n id es ds ∧ B = (b3 : Nat) ∧ b3 ≤ s.size ∧ q6 = false) ∨ (O0 = none ∧ q6 = true))
    (him : (!q6 && isAtB s ⟨#[35, 73, 77, 80, 76, 73, 69, 68]⟩ B) = false) (h7 : q7 = (q6 || !(!id)))
    (h8 : ∀ v' k', (if q7 = true then none else quoO s B.toNat) = some (v', k') → v = v' ∧ a8 = (k' : Nat) ∧ q8 = false) (h8b : (if q7 = true then none else quoO s B.toNat) = none → q8 = true)
    (hx : x = expX (expandV (spacedB v) es)) (hok : ok = (expandV (spacedB v) es).isSome)
    (h9 : q9 = (q8 || !ok)) (h10 : q10 = (q9 || !(!hasDf ds el n && decide (ds.length + 1 ≤ 6)))) :
    (∀ d nx, O0 = some (d, nx) → d = ⟨el, n, id, true, x⟩ ∧ a8 = (nx : Nat) ∧ q10 = false) ∧ (O0 = none → q10 = true) := by
  rcases H with ⟨b3, e1, e2, e3, e4⟩ | ⟨e1, e2⟩
  · subst e4 e2
    rw [Int.toNat_natCast] at h8 h8b
    have h7 : q7 = id := by rw [h7]; cases id <;> rfl
    rw [h7] at h8 h8b
    rw [e1]
    exact def_law2 him h8 h8b hx hok h9 h10
  · subst e2
    have h7 : q7 = true := h7
    have h8 : q8 = true := h8b (by rw [h7]; rfl)
    refine ⟨fun d nx e => (by rw [e1] at e; cases e), fun _ => ?_⟩
    rw [h10, h9, h8]; rfl
theorem def_non {s n el : ByteArray} {B a7 : Int} {es : List Dcl} {ds : List Df} {q6 q10 id : Bool} {O0 : Option (Df × Nat)} (H : (∃ b3 : Nat, O0 = dfX s b3 el n id es ds ∧ B = (b3 : Nat) ∧ b3 ≤ s.size ∧ q6 = false) ∨ (O0 = none ∧ q6 = true))
    (him : (!q6 && isAtB s ⟨#[35, 73, 77, 80, 76, 73, 69, 68]⟩ B) = true) (ha : a7 = B + 8) (h10 : q10 = (q6 || !(!hasDf ds el n && decide (ds.length + 1 ≤ 6)))) :
    (∀ d nx, O0 = some (d, nx) → d = ⟨el, n, id, false, ⟨#[]⟩⟩ ∧ a7 = (nx : Nat) ∧ q10 = false) ∧ (O0 = none → q10 = true) := by
  rcases H with ⟨b3, e1, e2, e3, e4⟩ | ⟨e1, e2⟩
  · subst e4 e2 ha
    rw [e1]
    exact def_law3 him h10
  · subst e2
    cases him
/-- Behind a round of a list. -/
theorem round_law {s el : ByteArray} {k : Nat} {es : List Dcl} {ds : List Df} {a : Int} {q : Bool} {d : Df} {o : Option (List Df × Nat)} (hk : k ≤ s.size) (hO : o = ((gapO s k).bind fun b => defO s b el es ds).bind fun q => listN s el es q.2 (ds ++ [q.1]))
    (h1 : ∀ d' nx, ((gapO s k).bind fun b => defO s b el es ds) = some (d', nx) → d' = d ∧ a = (nx : Nat) ∧ q = false) (h2 : ((gapO s k).bind fun b => defO s b el es ds) = none → q = true) :
    (q = false → ∃ k' : Nat, a = (k' : Nat) ∧ k' ≤ s.size ∧ o = listN s el es k' (ds ++ [d]) ∧ (ds ++ [d]).length ≤ 6 ∧ k < k') ∧ (q = true → o = none) := by
  cases e : (gapO s k).bind fun b => defO s b el es ds with
  | none => exact ⟨fun e2 => (by rw [h2 e] at e2; cases e2), fun _ => (by rw [hO, e]; rfl)⟩
  | some p =>
    obtain ⟨d', nx⟩ := p
    obtain ⟨e1, e2, e3⟩ := h1 d' nx e
    refine ⟨fun _ => ⟨nx, e2, ?_⟩, fun e4 => by rw [e3] at e4; cases e4⟩
    have hb := blanksN_le s k
    cases e5 : gapO s k with
    | none => rw [e5] at e; cases e
    | some b =>
      have hg := gapO_next e5
      rw [e5] at e
      simp only [Option.bind_some] at e
      have hn := defO_next (by omega) e
      subst e1
      refine ⟨hn.2.1, ?_, by rw [List.length_append, List.length_singleton]; omega, by omega⟩
      rw [hO, e5]
      simp only [Option.bind_some]
      rw [e]; rfl
end Go.Proofs.YtmfkdgdamepbcaaGreatDoor
end
