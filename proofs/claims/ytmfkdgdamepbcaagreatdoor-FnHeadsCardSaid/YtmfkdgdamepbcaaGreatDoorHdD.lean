/- Joined: LsS, HdR, HdR2, HdG. -/
import Derived.Test.YtmfkdgdamepbcaaGreatDoorHdC
import Derived.Test.YtmfkdgdamepbcaaGreatDoorSpaced
import Derived.Test.YtmfkdgdamepbcaaGreatDoorRefA
import Derived.Deep.RegionLaw
import Derived.Test.YtmfkdgdamepbcaaGreatDoorHdA
section
/- The reference's heads: l7List. -/
namespace Go.Proofs.YtmfkdgdamepbcaaGreatDoor
open Go.RowKit Go.Lib
set_option linter.unusedVariables false
set_option linter.unusedSimpArgs false
set_option maxHeartbeats 8000000
set_option maxRecDepth 100000
theorem RH.other {n0 base r g gd : Nat} {s name : ByteArray} {w0 w w1 : World} {a : Int} {q : Bool} {vE vD : Value} {es : List Dcl} {ds : List Df} (h : RH n0 base r g s name w0 w a q vE vD es ds) (hm : Moved gd w w1)
    (hr : gd ≠ r) (hg : gd ≠ g) (hE : ∀ k, vE.ownBlock = some k → k < gd) (hD : ∀ k, vD.ownBlock = some k → k < gd) (hn : n0 ≤ gd) : RH n0 base r g s name w0 w1 a q vE vD es ds :=
  ⟨h.hb.trans (hm.below hn h.hn), h.rd.other hm (fun e => hr e.symm), ⟨(hm.block g h.hd.glt (fun e => hg e.symm)).trans h.hd.heap, h.hd.lt, Nat.le_trans h.hd.le hm.size,
    hown_grown h.hd.hE (hmoved_by hm) (fun k hk e => by injection e with e; have := hE k hk; omega), hown_grown h.hd.hD (hmoved_by hm) (fun k hk e => by injection e with e; have := hD k hk; omega), h.hd.ne⟩,
    Nat.le_trans h.hn hm.size, h.hr, h.hg, h.hbs, h.ne, h.rb⟩
/-- And a Def in a box. -/
structure RB (n0 base r g gd : Nat) (s name : ByteArray) (w0 w : World) (a : Int) (q : Bool) (vE vD : Value) (es : List Dcl) (ds : List Df) (d : Df) : Prop where
  rh : RH n0 base r g s name w0 w a q vE vD es ds
  box : w.heap[gd]? = some (.cells #[.string d.el, .string d.at_, .bool d.id, .bool d.has, .string d.val] 54 (0, 0))
  nr : gd ≠ r
  ng : gd ≠ g
  nE : ∀ k, vE.ownBlock = some k → k < gd
  nD : ∀ k, vD.ownBlock = some k → k < gd
  ge : n0 ≤ gd
section
variable {n0 base r g gd : Nat} {s name : ByteArray} {w0 w w1 w' : World} {a b : Int} {q p : Bool} {vE vD v' : Value} {es : List Dcl} {ds : List Df} {d : Df}
theorem RB.lt (h : RB n0 base r g gd s name w0 w a q vE vD es ds d) : gd < w.heap.size := (Array.getElem?_eq_some_iff.1 h.box).1
theorem RB.step (h : RB n0 base r g gd s name w0 w a q vE vD es ds d) (hr : Rd w1 r s b p) (hm : Moved r w w1) : RB n0 base r g gd s name w0 w1 b p vE vD es ds d :=
  ⟨h.rh.step hr hm, (hm.block gd h.lt h.nr).trans h.box, h.nr, h.ng, h.nE, h.nD, h.ge⟩
theorem RB.below (h : RB n0 base r g gd s name w0 w a q vE vD es ds d) (hb : Below w.heap.size w w1) : RB n0 base r g gd s name w0 w1 a q vE vD es ds d :=
  h.step (h.rh.rd.below hb) (Moved.of hb)
theorem RB.new (h : RH n0 base r g s name w0 w a q vE vD es ds) (el n : ByteArray) : RB n0 base r g w.heap.size s name w0 (w.alloc (.cells #[.string el, .string n, .bool false, .bool false, .string ⟨#[]⟩] 54 (0, 0))) a q vE vD es ds ⟨el, n, false, false, ⟨#[]⟩⟩ :=
  ⟨h.below (below_alloc (Below.refl _ _) _), Array.getElem?_push_size, (by have := h.rd.lt; omega), (by have := h.hd.glt; omega), (fun k hk => (h.hd.hE.lt k hk).2), (fun k hk => (h.hd.hD.lt k hk).2), h.hn⟩
theorem RB.setId (h : RB n0 base r g gd s name w0 w a q vE vD es ds d) (x : Bool) : RB n0 base r g gd s name w0 (w.setCell ⟨gd, 2, none⟩ (.bool x)) a q vE vD es ds { d with id := x } :=
  ⟨h.rh.other ((Moved.refl gd w).set) h.nr h.ng h.nE h.nD h.ge, heap_setCell_same _ gd 2 _ _ _ h.box, h.nr, h.ng, h.nE, h.nD, h.ge⟩
theorem RB.setHas (h : RB n0 base r g gd s name w0 w a q vE vD es ds d) (x : Bool) : RB n0 base r g gd s name w0 (w.setCell ⟨gd, 3, none⟩ (.bool x)) a q vE vD es ds { d with has := x } :=
  ⟨h.rh.other ((Moved.refl gd w).set) h.nr h.ng h.nE h.nD h.ge, heap_setCell_same _ gd 3 _ _ _ h.box, h.nr, h.ng, h.nE, h.nD, h.ge⟩
theorem RB.setVal (h : RB n0 base r g gd s name w0 w a q vE vD es ds d) (x : ByteArray) : RB n0 base r g gd s name w0 (w.setCell ⟨gd, 4, none⟩ (.string x)) a q vE vD es ds { d with val := x } :=
  ⟨h.rh.other ((Moved.refl gd w).set) h.nr h.ng h.nE h.nD h.ge, heap_setCell_same _ gd 4 _ _ _ h.box, h.nr, h.ng, h.nE, h.nD, h.ge⟩
theorem RB.other (h : RB n0 base r g gd s name w0 w a q vE vD es ds d) (hm : Moved w.heap.size w w1) : RB n0 base r g gd s name w0 w1 a q vE vD es ds d :=
  h.below (hm.below (Nat.le_refl _) (Nat.le_refl _))
end
theorem bd_below2 (w : World) (e : TypeId) (s : ByteArray) : Below w.heap.size w (Lib.bytesWorld w e s) :=
  ⟨rfl, rfl, rfl, by rw [Lib.bytesWorld_size]; omega, fun k hk => Lib.bytesWorld_at_old w e s k hk⟩
theorem zero_box {W w24 : World} (WX : World) (h : Below W.heap.size W w24) (hW : W.heap = WX.heap.push (.cells #[.string ⟨#[]⟩, .string ⟨#[]⟩, .bool false, .bool false, .string ⟨#[]⟩] 54 (0, 0))) :
    w24.heap[WX.heap.size]? = some (.cells #[.string ⟨#[]⟩, .string ⟨#[]⟩, .bool false, .bool false, .string ⟨#[]⟩] 54 (0, 0)) := by
  rw [h.block _ (by rw [hW, Array.size_push]; omega), hW]
  exact Array.getElem?_push_size
theorem dfV_is (o : Option Df) : ∃ x : Df, dfV o = .tuple #[dfG x, .bool o.isSome] := by
  cases o with
  | none => exact ⟨⟨⟨#[]⟩, ⟨#[]⟩, false, false, ⟨#[]⟩⟩, rfl⟩
  | some x => exact ⟨x, rfl⟩
/-- Up to a list's first Def. -/
theorem list_law {s n : ByteArray} {k : Nat} {es : List Dcl} {ds : List Df} {a2 : Int} {q1 q2 : Bool} {o : Option (List Df × Nat)} (hk : k ≤ s.size) (ho : o = listO s k es ds)
    (h1 : q1 = (false || !decide ((1 : Int) ≤ blanksI s (k : Nat) - (k : Nat))))
    (h2 : q1 = false → ∀ n' k', nameI s (blanksI s (k : Nat)) = some (n', k') → n = n' ∧ a2 = (k' : Nat) ∧ q2 = false) (h2b : q1 = true ∨ nameI s (blanksI s (k : Nat)) = none → q2 = true) :
    (q2 = false → ∃ k' : Nat, a2 = (k' : Nat) ∧ k' ≤ s.size ∧ o = listN s n es k' ds) ∧ (q2 = true → o = none) := by
  rw [ho]
  unfold listO
  rcases (gap_q h1).2 rfl with ⟨g1, e1⟩ | ⟨g1, e1⟩
  · rw [g1]
    simp only [Option.bind_some]
    have bl := (blanksN_le s k).2 hk
    rw [blanksI_nat, nameI_nat bl] at h2 h2b
    cases hn : nameO s (blanksN s k) with
    | none => exact ⟨fun e => (by rw [h2b (.inr hn)] at e; cases e), fun _ => rfl⟩
    | some p =>
      obtain ⟨n1, k1⟩ := p
      obtain ⟨e2, e3, e4⟩ := h2 e1 n1 k1 hn
      have hk1 := nameO_next bl hn
      exact ⟨fun _ => ⟨k1, e3, hk1.2.1, by rw [e2]; rfl⟩, fun e => by rw [e4] at e; cases e⟩
  · rw [g1]
    exact ⟨fun e => (by rw [h2b (.inl e1)] at e; cases e), fun _ => rfl⟩
def LsOut (n0 base r g : Nat) (s name : ByteArray) (w0 : World) (vE : Value) (es : List Dcl) (o : Option (List Df × Nat)) (w' : World) : Prop :=
  ∃ (a : Int) (q : Bool) (vD : Value) (ds' : List Df), RH n0 base r g s name w0 w' a q vE vD es ds' ∧ (∀ d nx, o = some (d, nx) → ds' = d ∧ a = (nx : Nat) ∧ q = false ∧ ds'.length ≤ 6) ∧ (o = none → q = true)
set_option maxHeartbeats 0 in
theorem l7List_calls (n0 base r g : Nat) (s name : ByteArray) (k : Nat) (vE vD : Value) (es : List Dcl) (ds : List Df) (w0 w : World) (hs : s.size ≤ 1048576) (hes : entsOk es = true) (hds : ds.length ≤ 6) (h : RH n0 base r g s name w0 w (k : Nat) false vE vD es ds) :
    Calls Tryz.prog 68 #[.pointer (some ⟨r, 0, none⟩), .pointer (some ⟨g, 0, none⟩)] w fun e w' => e = .returned (.tuple #[]) ∧ LsOut n0 base r g s name w0 vE es (listO s k es ds) w' := by
  have hk : k ≤ s.size := by have := h.rd.fit rfl; omega
  obtain ⟨A, c, hvE, hc, _⟩ := h.hd.ents
  have hel := (ents_le hes).1
  obtain ⟨i, hi, hz0, hz1, hz2⟩ := info_parts Tryz.info_Def
  have hnz : (.agg #[.string ⟨#[]⟩, .string ⟨#[]⟩, .bool false, .bool false, .string ⟨#[]⟩] : Value).cells.size = 5 := rfl
  have HES := Aside0.mk hes
  obtain ⟨o, ho⟩ : ∃ o, o = listO s k es ds := ⟨_, rfl⟩
  rw [← ho]
  replace ho := Aside0.mk ho
  have hhk := Aside0.mk hk
  have Hz2 := Aside0.mk hz2
  clear hz2
  clear hes hk
  subst hvE
  have HBl := Aside0.mk (fun a q W (h : Rd W r s a q) => l7Blanks_calls s a 1 q r W (by omega) h (by decide) (by decide))
  have HMu := Aside0.mk (fun a q b W (h : Rd W r s a q) => l7Must_calls s a q b r W h)
  have HNm := Aside0.mk (fun a q W (h : Rd W r s a q) => l7NameQ_calls s a q r W (by omega) h)
  have HVa := Aside0.mk (fun a q W (h : Rd W r s a q) => l7Value_calls s a q r W (by omega) h)
  have HIs := Aside0.mk (fun t a q W (ht : t.size ≤ 1000) (h : Rd W r s a q) => l7Is_calls s t a q r W (by omega) ht h)
  have hsz := Aside0.mk hs
  obtain ⟨b1, hb1⟩ : ∃ b, b = blanksI s (k : Nat) := ⟨_, rfl⟩
  have H1 := Aside0.mk (HBl.out _ _ w h.rd)
  rw [← hb1] at H1
  obtain ⟨q1, hq1⟩ : ∃ q, q = (false || !decide ((1 : Int) ≤ b1 - (k : Nat))) := ⟨_, rfl⟩
  rw [← hq1] at H1
  rw [hb1] at hq1
  replace hq1 := Aside0.mk hq1
  replace hb1 := Aside0.mk hb1
  go_enter Tryz.func68, Tryz.ntmps68
  go_wp2_with fail
  refine (H1.out).mono ?_
  rintro e w1 ⟨rfl, r1, m1⟩
  have h1 := h.step r1 m1
  clear r1 m1 h H1
  go_wp2_with fail
  refine (HNm.out _ _ _ h1.rd).mono ?_
  rintro e w2 ⟨el, a2, q2, rfl, hnz2, r2, m2, hn1, hn2⟩
  have h2 := h1.step r2 m2
  rw [hb1.out] at hn1 hn2
  have hlaw := Aside0.mk (list_law hhk.out ho.out hq1.out hn1 hn2)
  clear r2 m2 h1 hn1 hn2 hq1 hb1
  have hell : el.size ≤ 1048576 := Nat.le_trans hnz2 hsz.out
  clear hnz2
  go_wp2_with fail
  go_loopg [] (if q2 = true then 0 else s.size - a2.toNat + 1) (fun gd wr => ∃ (a : Int) (q : Bool) (vD : Value) (ds' : List Df), gd = (if q = true then 0 else s.size - a.toNat + 1) ∧ RH n0 base r g s name w0 wr a q (.slice A es.length c) vD es ds' ∧
    Aside ((q = false → ∃ k' : Nat, a = (k' : Nat) ∧ k' ≤ s.size ∧ o = listN s el es k' ds' ∧ ds'.length ≤ 6) ∧ (q = true → o = none)))
  case atStart =>
    refine ⟨a2, q2, vD, ds, rfl, h2, fun e => ?_, hlaw.out.2⟩
    obtain ⟨k', e1, e2, e3⟩ := hlaw.out.1 e
    exact ⟨k', e1, e2, e3, hds⟩
  case round =>
    obtain ⟨a, q, vD, ds, rfl, hR, ha⟩ := hrel
    clear h2 hlaw
    replace ha := Aside0.mk ha
    obtain ⟨c0, c1, c2, f1, f2⟩ := hR.rd.cells
    cases q with
    | true =>
      have hfin := Aside0.mk (show LsOut n0 base r g s name w0 (.slice A es.length c) es o wr from
        ⟨_, _, _, _, hR, (fun d nx e => by rw [ha.out.2 rfl] at e; cases e), fun _ => rfl⟩)
      clear hR
      go_wp2
      go_end0
      exact ⟨rfl, hfin.out⟩
    | false =>
    obtain ⟨k, hak, hk, hO, hds⟩ := ha.out.1 rfl
    subst hak
    clear ha
    replace hO := Aside0.mk hO
    have C0 := later_cell c0 hR.rd.lt
    have C1 := later_cell c1 hR.rd.lt
    have HB := Aside0.mk (fun W => specBlanks_calls s (k : Nat) W (by omega) (by omega))
    obtain ⟨b, hb⟩ : ∃ b, b = blanksN s k := ⟨_, rfl⟩
    rw [blanksI_nat, ← hb] at HB
    have hbl := blanksN_le s k
    rw [← hb] at hbl
    have HI := Aside0.mk (fun W => l6Is_calls s ⟨#[62]⟩ (b : Nat) W (by omega) (by decide) (by omega) (by omega))
    replace hb := Aside0.mk hb
    go_upto_region 3 with fail
    refine wp_region_later (by kernel_rfl) (by kernel_rfl) ?_
    repeat (go_big_quiet_step ((go_at_call 14; exact later_call ((HB.out _).mono (fun _ _ h => ⟨h.1, by rw [h.2]; exact Below.refl _ _⟩)))))
    refine wpQuiet_nil ?_
    rintro _ ⟨⟨W3, hb3⟩, rfl⟩
    have h3 := hR.below hb3
    clear C0 C1 c0 c1 c2 f1 f2 hb3 hR HB
    obtain ⟨c0, c1, c2, f1, f2⟩ := h3.rd.cells
    cases hgt : isAtB s ⟨#[62]⟩ (b : Nat) with
    | true =>
      rw [hgt] at HI
      have hroom := isAt_room hgt
      have hOe := Aside0.mk (show o = some (ds, b + 1) by rw [hO.out, listN_at hk, ← hb.out, hgt, if_pos rfl])
      have hroom : b + 1 ≤ s.size := hroom
      have h4 := h3.step (h3.rd.setA ((b : Int) + 1) (by omega) (by omega) (fun _ => by omega)) ((Moved.refl _ _).set (o := 1) (u := .int .i64 ((b : Int) + 1)))
      have hfin := Aside0.mk (show LsOut n0 base r g s name w0 (.slice A es.length c) es o _ from
        ⟨_, _, _, _, h4, (fun d nx e => by rw [hOe.out] at e; injection e with e; injection e with e1 e2; exact ⟨e1, by rw [← e2]; omega, rfl, hds⟩), fun e => by rw [hOe.out] at e; cases e⟩)
      clear h3 h4 hgt
      go_wp2_with fail
      refine (HI.out _).mono ?_
      rintro e w4 ⟨rfl, rfl⟩
      go_wp2
      (try simp only [Exit.inBlock, Exit.then]); refine bodyPost_ret (results_none rfl _ _ _) rfl ?_
      exact ⟨rfl, hfin.out⟩
    | false =>
    rw [hgt] at HI
    have hOn := Aside0.mk (show o = ((gapO s k).bind fun b => defO s b el es ds).bind fun q => listN s el es q.2 (ds ++ [q.1]) by
      rw [hO.out, listN_at hk, ← hb.out, hgt, if_neg (by decide)]
      cases gapO s k <;> rfl)
    clear hgt hO
    go_wp2_with fail
    refine (HI.out _).mono ?_
    rintro e w4 ⟨rfl, rfl⟩
    clear HI c0 c1 c2 f1 f2
    have H6 := Aside0.mk (HBl.out _ _ _ h3.rd)
    rw [blanksI_nat] at H6
    obtain ⟨q6, hq6⟩ : ∃ q, q = (false || !decide ((1 : Int) ≤ ((blanksN s k : Nat) : Int) - (k : Nat))) := ⟨_, rfl⟩
    rw [← hq6] at H6
    rw [← blanksI_nat] at H6 hq6
    replace hq6 := Aside0.mk hq6
    obtain ⟨b6, hb6⟩ : ∃ b, b = blanksI s (k : Nat) := ⟨_, rfl⟩
    rw [← hb6] at H6
    replace hb6 := Aside0.mk hb6
    go_wp2_with fail
    refine (H6.out).mono ?_
    rintro e w6 ⟨rfl, r6, m6⟩
    have h6 := h3.step r6 m6
    clear r6 m6 h3 H6
    go_wp2_with fail
    refine (HNm.out _ _ _ h6.rd).mono ?_
    rintro e w7 ⟨n, a7, q7, rfl, hnz7, r7, m7, hn1, hn2⟩
    have h7 := h6.step r7 m7
    rw [hb6.out] at hn1 hn2
    replace hn1 := Aside0.mk hn1
    replace hn2 := Aside0.mk hn2
    clear r7 m7 h6 hb6
    obtain ⟨gd, hgd⟩ : ∃ gd, gd = w7.heap.size := ⟨_, rfl⟩
    have hB := RB.new h7 el n
    obtain ⟨W7, hW7⟩ : ∃ W, W = w7.alloc (.cells #[.string el, .string n, .bool false, .bool false, .string ⟨#[]⟩] 54 (0, 0)) := ⟨_, rfl⟩
    rw [← hW7] at hB
    have HW7 := Aside0.mk hW7
    clear hW7 h7
    go_upto_region 8 with fail
    rw [← HW7.out]
    rw [← hgd] at hB ⊢
    clear hgd
    obtain ⟨b8, hb8⟩ : ∃ b, b = blanksI s a7 := ⟨_, rfl⟩
    obtain ⟨q8, hq8⟩ : ∃ q, q = (q7 || !decide ((1 : Int) ≤ b8 - a7)) := ⟨_, rfl⟩
    have H8 := Aside0.mk (HBl.out _ _ _ hB.rh.rd)
    rw [← hb8, ← hq8] at H8
    rw [hb8] at hq8
    replace hq8 := Aside0.mk hq8
    replace hb8 := Aside0.mk hb8
    go_wp2_with fail
    refine (H8.out).mono ?_
    rintro e w8 ⟨rfl, r8, m8⟩
    replace hB := hB.step r8 m8
    clear r8 m8 H8
    obtain ⟨id, hid⟩ : ∃ x, x = (!q8 && isAtB s ⟨#[73, 68]⟩ b8) := ⟨_, rfl⟩
    obtain ⟨a9, ha9⟩ : ∃ x : Int, x = (if id = true then b8 + ((⟨#[73, 68]⟩ : ByteArray).size : Int) else b8) := ⟨_, rfl⟩
    have H9 := Aside0.mk (HIs.out ⟨#[73, 68]⟩ _ _ _ (by decide) hB.rh.rd)
    rw [← hid, ← ha9] at H9
    rw [hb8.out] at hid ha9
    replace hid := Aside0.mk hid
    replace ha9 := Aside0.mk ha9
    go_wp2_with fail
    refine (H9.out).mono ?_
    rintro e w9 ⟨rfl, r9, m9⟩
    replace hB := hB.step r9 m9
    clear r9 m9 H9
    obtain ⟨d0, d1, d2, d3, d4, g0, g1, g2, g3, g4⟩ := cells5 hB.box
    go_upto_region 10 with fail
    obtain ⟨X9, hX9⟩ : ∃ X, X = w9.setCell ⟨gd, 2, none⟩ (.bool id) := ⟨_, rfl⟩
    replace hB : RB n0 base r g gd s name w0 _ a9 q8 (.slice A es.length c) vD es ds ⟨el, n, id, false, ⟨#[]⟩⟩ := hB.setId id
    rw [← hX9] at hB ⊢
    clear hX9 d0 d1 d2 d3 d4 g0 g1 g2 g3 g4
    go_cut [] (fun wx => ∃ (a5 : Int) (q5 : Bool), RB n0 base r g gd s name w0 wx a5 q5 (.slice A es.length c) vD es ds ⟨el, n, id, false, ⟨#[]⟩⟩ ∧ Aside (q5 = (q8 || !(id || (!q8 && isAtB s ⟨#[67, 68, 65, 84, 65]⟩ a9))) ∧ a5 = if (!id && (!q8 && isAtB s ⟨#[67, 68, 65, 84, 65]⟩ a9)) = true then a9 + 5 else a9))
    case first =>
      obtain ⟨d0, d1, d2, d3, d4, g0, g1, g2, g3, g4⟩ := cells5 hB.box
      cases id with
      | true =>
        go_wp2_with fail
        refine (HMu.out _ _ true _ hB.rh.rd).mono ?_
        rintro e w10 ⟨rfl, r10, m10⟩
        replace hB := Aside0.mk (hB.step r10 m10)
        clear r10 m10 d0 d1 d2 d3 d4 g0 g1 g2 g3 g4
        go_wp2_with fail
        go_meet
        exact ⟨_, _, hB.out, rfl, by simp⟩
      | false =>
        obtain ⟨cd, hcd⟩ : ∃ x, x = (!q8 && isAtB s ⟨#[67, 68, 65, 84, 65]⟩ a9) := ⟨_, rfl⟩
        obtain ⟨a10, ha10⟩ : ∃ x : Int, x = (if cd = true then a9 + ((⟨#[67, 68, 65, 84, 65]⟩ : ByteArray).size : Int) else a9) := ⟨_, rfl⟩
        have H10 := Aside0.mk (HIs.out ⟨#[67, 68, 65, 84, 65]⟩ _ _ _ (by decide) hB.rh.rd)
        rw [← hcd, ← ha10] at H10
        replace hcd := Aside0.mk hcd
        replace ha10 := Aside0.mk ha10
        go_wp2_with fail
        refine (H10.out).mono ?_
        rintro e w10 ⟨rfl, r10, m10⟩
        replace hB := hB.step r10 m10
        clear r10 m10 H10 d0 d1 d2 d3 d4 g0 g1 g2 g3 g4
        go_wp2_with fail
        refine (HMu.out _ _ cd _ hB.rh.rd).mono ?_
        rintro e w10' ⟨rfl, r10, m10⟩
        replace hB := Aside0.mk (hB.step r10 m10)
        clear r10 m10
        go_wp2_with fail
        go_meet
        exact ⟨_, _, hB.out, (by rw [hcd.out]; rfl), by rw [ha10.out, hcd.out]; rfl⟩
    case rest =>
    clear hB
    obtain ⟨a5, q5, hB, hcf⟩ := hcut
    obtain ⟨b11, hb11⟩ : ∃ b, b = blanksI s a5 := ⟨_, rfl⟩
    obtain ⟨q11, hq11⟩ : ∃ q, q = (q5 || !decide ((1 : Int) ≤ b11 - a5)) := ⟨_, rfl⟩
    have H11 := Aside0.mk (HBl.out _ _ _ hB.rh.rd)
    rw [← hb11, ← hq11] at H11
    rw [hb11] at hq11
    have hL := def_law1 (el := el) (ds := ds) (es := es) hk hq6.out hn1.out hn2.out hq8.out hid.out ha9.out hcf.out.1 hcf.out.2 hq11
    rw [← hb11] at hL
    replace hL := Aside0.mk hL
    clear hq11 hb11 hcf
    go_wp2_with fail
    refine (H11.out).mono ?_
    rintro e w11 ⟨rfl, r11, m11⟩
    replace hB := hB.step r11 m11
    clear r11 m11 H11
    obtain ⟨im, him⟩ : ∃ x, x = (!q11 && isAtB s ⟨#[35, 73, 77, 80, 76, 73, 69, 68]⟩ b11) := ⟨_, rfl⟩
    obtain ⟨a12, ha12⟩ : ∃ x : Int, x = (if im = true then b11 + ((⟨#[35, 73, 77, 80, 76, 73, 69, 68]⟩ : ByteArray).size : Int) else b11) := ⟨_, rfl⟩
    have H12 := Aside0.mk (HIs.out ⟨#[35, 73, 77, 80, 76, 73, 69, 68]⟩ _ _ _ (by decide) hB.rh.rd)
    rw [← him, ← ha12] at H12
    replace him := Aside0.mk him
    replace ha12 := Aside0.mk ha12
    go_wp2_with fail
    refine (H12.out).mono ?_
    rintro e w12 ⟨rfl, r12, m12⟩
    replace hB := hB.step r12 m12
    clear r12 m12 H12
    go_upto_if 65 with fail
    go_cut [] (fun wx => ∃ (a : Int) (q has : Bool) (val : ByteArray), RB n0 base r g gd s name w0 wx a q (.slice A es.length c) vD es ds ⟨el, n, id, has, val⟩ ∧
      Aside (∀ q10, q10 = (q || !(!hasDf ds el n && decide (ds.length + 1 ≤ 6))) → (∀ d nx, ((gapO s k).bind fun b => defO s b el es ds) = some (d, nx) → d = ⟨el, n, id, has, val⟩ ∧ a = (nx : Nat) ∧ q10 = false) ∧ (((gapO s k).bind fun b => defO s b el es ds) = none → q10 = true)))
    case first =>
      cases im with
      | true =>
        have hfin := Aside0.mk (fun q10 (h : q10 = (q11 || !(!hasDf ds el n && decide (ds.length + 1 ≤ 6)))) => def_non (a7 := a12) hL.out him.out.symm (by rw [ha12.out]; rfl) h)
        replace hB := Aside0.mk hB
        go_wp2_with fail
        go_meet
        exact ⟨_, _, _, _, hB.out, hfin.out⟩
      | false =>
        have e12 : a12 = b11 := by rw [ha12.out]; rfl
        clear ha12
        subst e12
        obtain ⟨d0, d1, d2, d3, d4, g0, g1, g2, g3, g4⟩ := cells5 hB.box
        obtain ⟨q13, hq13⟩ : ∃ q, q = (q11 || !(!id)) := ⟨_, rfl⟩
        have H13 := Aside0.mk (HMu.out _ _ (!id) _ hB.rh.rd)
        rw [← hq13] at H13
        replace hq13 := Aside0.mk hq13
        go_wp2_with fail
        refine (H13.out).mono ?_
        rintro e w13 ⟨rfl, r13, m13⟩
        replace hB := hB.step r13 m13
        clear r13 m13 H13 d0 d1 d2 d3 d4 g0 g1 g2 g3 g4
        go_wp2_with fail
        refine (HVa.out _ _ _ hB.rh.rd).mono ?_
        rintro e w14 ⟨v, a14, q14, rfl, hvz, r14, m14, hv1, hv2⟩
        replace hB := hB.step r14 m14
        replace hv1 := Aside0.mk hv1
        replace hv2 := Aside0.mk hv2
        clear r14 m14
        have hcv := @Lib.run_convert_string_bytes Tryz.prog w14 9 22 5 v _ Tryz.underlying9 Tryz.underlying22 Tryz.underlying5
        have hsp := Aside0.mk (sp_start w14 5 v)
        have hwbb := Aside0.mk (bd_below2 w14 5 v)
        replace hB := Aside0.mk hB
        go_wp2
        generalize Lib.bytesWorld w14 5 v = wb at hsp hwbb ⊢
        generalize grownCap w14 v.size 0 5 = cb
        clear hcv
        go_loopg [8] v.size (fun k i wr => ∃ j : Nat, i = .int .i64 j ∧ j + k = v.size ∧ SpAt w14.heap.size v wb j wr)
        case atStart => exact ⟨0, rfl, by omega, hsp.out⟩
        case round =>
          obtain ⟨j, rfl, hk, ha⟩ := hrel
          by_cases hlt : j < v.size
          · have hc := ha.left j (Nat.le_refl _) hlt
            have hf := ha.free j hlt
            have HA := Aside0.mk ha
            have hsy := Aside0.mk (fun h => spB_yes (b := v[j]'hlt) h)
            have hsn := Aside0.mk (fun h => spB_no (b := v[j]'hlt) h)
            obtain ⟨x, hx⟩ : ∃ x : Nat, (v[j]'hlt).toNat = x := ⟨_, rfl⟩
            have hx256 : x < 256 := by rw [← hx]; exact UInt8.toNat_lt _
            rw [hx] at hc hsy hsn
            have HI := Aside0.mk (fun W => specIsBlank_calls (x : Nat) W)
            clear ha hx
            cases hq : isBlank (x : Nat) with
            | true =>
              have hnx := Aside0.mk (HA.out.put hlt (hsy.out hq))
              rw [hq] at HI
              clear hq hsy hsn
              go_wp2_with fail
              refine (HI.out _).mono ?_
              rintro e w2 ⟨rfl, rfl⟩
              go_wp2
              go_roundg (gk - 1)
              case measure => omega
              case rel => exact ⟨j + 1, by go_num, by omega, hnx.out⟩
            | false =>
              have hnx := Aside0.mk (HA.out.keep hlt (hsn.out hq))
              rw [hq] at HI
              clear hq hsy hsn
              go_wp2_with fail
              refine (HI.out _).mono ?_
              rintro e w2 ⟨rfl, rfl⟩
              go_wp2
              go_roundg (gk - 1)
              case measure => omega
              case rel => exact ⟨j + 1, by go_num, by omega, hnx.out⟩
          · obtain rfl : j = v.size := by omega
            have hcv := (SpAt.mk ha.done ha.left ha.free ha.moved.drew : SpAt w14.heap.size v wb v.size wr.drew).text (c := cb)
            replace hB := hB.out.below (below_moved hwbb.out ha.moved (Nat.le_refl _))
            clear ha hsp hlt hk hwbb
            obtain ⟨sv, hsv⟩ : ∃ sv, sv = spacedB v := ⟨_, rfl⟩
            have hsvz : sv.size ≤ 1048576 := by rw [hsv, spaced_size]; omega
            rw [← hsv] at hcv
            replace hsv := Aside0.mk hsv
            obtain ⟨_, d1, _⟩ := hB.rh.hd.cells
            have HXp := Aside0.mk (fun W (hb : Below wr.heap.size wr W) => show Calls Tryz.prog 91 #[.string sv, .slice A es.length c] W fun e w' => e = .returned (optV (expandV sv es)) ∧ Below W.heap.size W w' from by
              obtain ⟨A', c', hv', _, hr'⟩ := (hB.below hb).rh.hd.ents
              cases hv'
              exact specExpand_calls sv A c es W hr' (by omega) (ents_le HES.out).2)
            replace hB := Aside0.mk hB
            go_upto_region 20 with fail
            go_region_with (first
              | (go_at_call 91; refine (HXp.out _ (below_drew (Below.refl _ _))).mono ?_; rintro e w20 ⟨rfl, hb20⟩
                 rw [optV_is]))
            all_goals
              replace hB := hB.out.below (below_then (below_drew (Below.refl _ _)) hb20)
              obtain ⟨x, hx⟩ : ∃ x, x = expX (expandV sv es) := ⟨_, rfl⟩
              obtain ⟨ok, hok⟩ : ∃ ok, ok = (expandV sv es).isSome := ⟨_, rfl⟩
              rw [← hx, ← hok]
              rw [hsv.out] at hx hok
              replace hx := Aside0.mk hx
              replace hok := Aside0.mk hok
              clear hcv d1 HXp hb20
              obtain ⟨q21, hq21⟩ : ∃ q, q = (q14 || !ok) := ⟨_, rfl⟩
              have H21 := Aside0.mk (HMu.out _ _ ok _ hB.rh.rd)
              rw [← hq21] at H21
              replace hq21 := Aside0.mk hq21
              go_wp2_with fail
              refine (H21.out).mono ?_
              rintro e w21 ⟨rfl, r21, m21⟩
              replace hB := hB.step r21 m21
              clear r21 m21 H21
              obtain ⟨d0, d1, d2, d3, d4, g0, g1, g2, g3, g4⟩ := cells5 hB.box
              have hfin := Aside0.mk (fun q10 (h : q10 = (q21 || !(!hasDf ds el n && decide (ds.length + 1 ≤ 6)))) => def_val (a8 := a14) hL.out him.out.symm hq13.out hv1.out hv2.out hx.out hok.out hq21.out h)
              replace hB := Aside0.mk ((hB.setHas true).setVal x)
              go_wp2_with fail
              go_meet
              exact ⟨_, _, true, x, hB.out, hfin.out⟩
    case rest =>
    clear hB
    obtain ⟨a, q, has, val, hB, hlaw⟩ := hcut
    replace hlaw := Aside0.mk hlaw
    clear hL him ha12
    obtain ⟨wX, hwX⟩ : ∃ x, x = wc := ⟨_, rfl⟩
    rw [← hwX] at hB ⊢
    clear hwX
    obtain ⟨th, hth⟩ : ∃ b, b = hasDf ds el n := ⟨_, rfl⟩
    replace hth := Aside0.mk hth
    obtain ⟨AD, cD, hvD, hcD, hrD⟩ := hB.rh.hd.defs
    subst hvD
    go_upto_region 24 with fail
    go_cut [11, 12] (fun p11 p12 wx => p12 = .bool th ∧ RB n0 base r g gd s name w0 wx a q (.slice A es.length c) (.slice AD ds.length cD) es ds ⟨el, n, id, has, val⟩)
    case first =>
      obtain ⟨d0, d1, d2, d3, d4, g0, g1, g2, g3, g4⟩ := cells5 hB.box
      obtain ⟨e0, e1, e2, _⟩ := hB.rh.hd.cells
      have HDO := Aside0.mk (fun W (hb : Below wX.heap.size wX W) => (specDefOf_calls ds AD cD el n W (hrD.below hb)).mono (fun _ _ h => And.intro h.1 (And.intro (below_then hb h.2) h.2)))
      obtain ⟨x24, hx24⟩ := dfV_is (ds.find? (dfIs el n))
      rw [← hasDf_find] at hx24
      rw [hx24, ← hth.out] at HDO
      have HX := Aside0.mk (fun W (hb : Below wX.heap.size wX W) => hB.below hb)
      have HKS := Aside0.mk (fun W (hb : Below wX.heap.size wX W) => show Below wX.heap.size wX W ∧ W.cell? ⟨g, 2, none⟩ = some (.slice AD ds.length cD) ∧ W.cell? ⟨gd, 0, none⟩ = some (.string el) ∧ W.cell? ⟨gd, 1, none⟩ = some (.string n) from
        ⟨hb, (hB.below hb).rh.hd.cells.2.2.1, (cells5 (hB.below hb).box).1, (cells5 (hB.below hb).box).2.1⟩)
      clear hx24 hrD hB
      go_region_held3 (fun w' => Below wX.heap.size wX w' ∧ w'.cell? ⟨g, 2, none⟩ = some (.slice AD ds.length cD) ∧ w'.cell? ⟨gd, 0, none⟩ = some (.string el) ∧ w'.cell? ⟨gd, 1, none⟩ = some (.string n))
        (refine HKS.out _ ?_ <;> (first | assumption | exact below_drew (Below.refl _ _) | exact below_drew (below_alloc (Below.refl _ _) _) | exact below_alloc (below_drew (Below.refl _ _)) _ | exact below_alloc hb24 _ | exact below_moved hb24 (((((Moved.refl _ _).set).set).set).set).set (Nat.le_refl _)))
        (first
          | (go_at_call 27; refine (HDO.out _ (by first | exact below_drew (Below.refl _ _) | exact below_drew (below_alloc (Below.refl _ _) _))).mono ?_; rintro e w24 ⟨rfl, hb24, hb24'⟩
             first
               | (have hz24 := zero_box wX hb24' rfl
                  obtain ⟨y0, y1, y2, y3, y4, z0, z1, z2, z3, z4⟩ := cells5 hz24)
               | skip
             simp only [dfG])
          | fail)
      all_goals
        go_wp2_with fail
        go_meet
        exact ⟨rfl, HX.out _ (by first | exact below_alloc hb24 _ | exact below_moved hb24 (((((Moved.refl _ _).set).set).set).set).set (Nat.le_refl _))⟩
    case rest =>
      clear hB hrD
      obtain ⟨p24, hB⟩ := hcut
      subst p24
      obtain ⟨d0, d1, d2, d3, d4, g0, g1, g2, g3, g4⟩ := cells5 hB.box
      obtain ⟨e0, e1, e2, k0, k1, k2⟩ := hB.rh.hd.cells
      have hle := hB.rh.hd.le
      have hBz : RB n0 base r g gd s name w0 (wc.alloc (.cells #[.string el, .string n, .bool id, .bool has, .string val] 54)) a q (.slice A es.length c) (.slice AD ds.length cD) es ds ⟨el, n, id, has, val⟩ := hB.below (below_alloc (Below.refl _ _) _)
      obtain ⟨v0, v1, v2', v3, v4, _⟩ := cells5 hBz.box
      obtain ⟨_, _, v5, _⟩ := hBz.rh.hd.cells
      have hBw : Below wc.heap.size wc ((wc.alloc (.cells #[.string el, .string n, .bool id, .bool has, .string val] 54)).drew) := below_drew (below_alloc (Below.refl _ _) _)
      have hnews := Aside0.mk (show ∀ j u, ([.string el, .string n, .bool id, .bool has, .string val] : List Value)[j]? = some u → ((wc.alloc (.cells #[.string el, .string n, .bool id, .bool has, .string val] 54)).drew).cell? ((⟨wc.heap.size, 0, none⟩ : Addr).add j) = some u from df_news wc (Df.mk el n id has val) 54)
      have hown := Aside0.mk (own_below hB.rh.hd.hD hBw)
      have h11 := Aside0.mk (hB.rh.below hBw)
      have hlw := Aside0.mk (Nat.le_trans hle hBw.size)
      have h1c := Aside0.mk (show ∀ u ∈ ([.string el, .string n, .bool id, .bool has, .string val] : List Value), u.oneCell' = true from df_one (Df.mk el n id has val))
      have hlm := Aside0.mk (show ds.length + 1 ≤ maxLen ∧ (ds.length + 1) * 56 ≤ 140737488355328 from ⟨by unfold maxLen; omega, by omega⟩)
      clear hBz hBw hB hle
      go_upto_region 25 with fail
      go_region_law (first
        | (refine step_app_in rfl (.tmp 121) (.tmp 123) 46 rfl base 54 i (.agg #[.string ⟨#[]⟩, .string ⟨#[]⟩, .bool false, .bool false, .string ⟨#[]⟩]) 5 56 Tryz.underlying46 hi hz0 hz1 Hz2.out hnz (by decide) (.slice AD ds.length cD) ds.length (ds.flatMap Df.cells) rfl hown.out ⟨wc.heap.size, 0, none⟩ 1 1 [.string el, .string n, .bool id, .bool has, .string val] rfl rfl hnews.out h1c.out hlm.out.1 hlm.out.2 hlw.out ?_
           intro v' w25 hown3 hgrow3 hat3
           obtain ⟨p1, p2⟩ := h11.out.pD hgrow3
           have h12 := h11.out.addD (d := ⟨el, n, id, has, val⟩) hown3 hgrow3 hat3
           obtain ⟨Av, cv, hv', _⟩ := h12.hd.defs
           rw [List.length_append, List.length_singleton] at hv'
           subst hv'
           replace h12 := Aside0.mk h12
           clear hown3 hgrow3 hat3))
      all_goals
        obtain ⟨X, hX⟩ : ∃ X, X = w25.setCell ⟨g, 2, none⟩ (.slice Av (ds.length + 1) cv) := ⟨_, rfl⟩
        replace h12 := h12.out
        rw [← hX] at h12 ⊢
        clear hX p1 p2 d0 d1 d2 d3 d4 g0 g1 g2 g3 g4 e0 e1 e2 k0 k1 k2 v0 v1 v2' v3 v4 v5
        obtain ⟨_, _, e2, _⟩ := h12.hd.cells
        cases th with
        | true =>
          have hnx := Aside0.mk (round_law hk hOn.out (hlaw.out (q || !false) (by rw [← hth.out]; rfl)).1 (hlaw.out (q || !false) (by rw [← hth.out]; rfl)).2)
          go_wp2_with fail
          refine (HMu.out _ _ false _ h12.rd).mono ?_
          rintro e w27 ⟨rfl, r27, m27⟩
          have h27 := Aside0.mk (h12.step r27 m27)
          clear r27 m27 h12 e2
          obtain ⟨q27, hq27⟩ : ∃ x, x = (q || !false) := ⟨_, rfl⟩
          rw [← hq27] at hnx h27
          clear hq27
          go_wp2
          go_roundg (if q27 = true then 0 else s.size - a.toNat + 1)
          case measure =>
            have := hnx.out
            cases q27 with
            | true => simp
            | false =>
              obtain ⟨k', e1, e2, _, _, e3⟩ := this.1 rfl
              rw [e1]
              simp
              omega
          case rel =>
            exact ⟨a, q27, _, ds ++ [⟨el, n, id, has, val⟩], rfl, h27.out, (fun h => by obtain ⟨k', e1, e2, e3, e4, _⟩ := hnx.out.1 h; exact ⟨k', e1, e2, e3, e4⟩), hnx.out.2⟩
        | false =>
          by_cases h6 : ds.length + 1 ≤ 6
          · have h6i : ((ds.length : Int) + 1) ≤ 6 := by omega
            have hnx := Aside0.mk (round_law hk hOn.out (hlaw.out (q || !true) (by rw [← hth.out]; (rw [decide_eq_true h6]; rfl))).1 (hlaw.out (q || !true) (by rw [← hth.out]; (rw [decide_eq_true h6]; rfl))).2)
            go_wp2_with fail
            refine (HMu.out _ _ true _ h12.rd).mono ?_
            rintro e w27 ⟨rfl, r27, m27⟩
            have h27 := Aside0.mk (h12.step r27 m27)
            clear r27 m27 h12 e2
            obtain ⟨q27, hq27⟩ : ∃ x, x = (q || !true) := ⟨_, rfl⟩
            rw [← hq27] at hnx h27
            clear hq27
            go_wp2
            go_roundg (if q27 = true then 0 else s.size - a.toNat + 1)
            case measure =>
              have := hnx.out
              cases q27 with
              | true => simp
              | false =>
                obtain ⟨k', e1, e2, _, _, e3⟩ := this.1 rfl
                rw [e1]
                simp
                omega
            case rel =>
              exact ⟨a, q27, _, ds ++ [⟨el, n, id, has, val⟩], rfl, h27.out, (fun h => by obtain ⟨k', e1, e2, e3, e4, _⟩ := hnx.out.1 h; exact ⟨k', e1, e2, e3, e4⟩), hnx.out.2⟩
          · have h6i : ¬ ((ds.length : Int) + 1) ≤ 6 := by omega
            have hnx := Aside0.mk (round_law hk hOn.out (hlaw.out (q || !false) (by rw [← hth.out]; (rw [decide_eq_false h6]; rfl))).1 (hlaw.out (q || !false) (by rw [← hth.out]; (rw [decide_eq_false h6]; rfl))).2)
            go_wp2_with fail
            refine (HMu.out _ _ false _ h12.rd).mono ?_
            rintro e w27 ⟨rfl, r27, m27⟩
            have h27 := Aside0.mk (h12.step r27 m27)
            clear r27 m27 h12 e2
            obtain ⟨q27, hq27⟩ : ∃ x, x = (q || !false) := ⟨_, rfl⟩
            rw [← hq27] at hnx h27
            clear hq27
            go_wp2
            go_roundg (if q27 = true then 0 else s.size - a.toNat + 1)
            case measure =>
              have := hnx.out
              cases q27 with
              | true => simp
              | false =>
                obtain ⟨k', e1, e2, _, _, e3⟩ := this.1 rfl
                rw [e1]
                simp
                omega
            case rel =>
              exact ⟨a, q27, _, ds ++ [⟨el, n, id, has, val⟩], rfl, h27.out, (fun h => by obtain ⟨k', e1, e2, e3, e4, _⟩ := hnx.out.1 h; exact ⟨k', e1, e2, e3, e4⟩), hnx.out.2⟩
end Go.Proofs.YtmfkdgdamepbcaaGreatDoor
end
section
/- HeadAt of the reference. -/
namespace Go.Proofs.YtmfkdgdamepbcaaGreatDoor
open Go.RowKit Go.Lib
set_option linter.unusedVariables false
set_option linter.unusedSimpArgs false
set_option maxHeartbeats 8000000
set_option maxRecDepth 100000
/-- What comes of a HeadAt. -/
def HdOut (w : World) (o : Option (Hd × Nat)) (e : Ending) (w' : World) : Prop :=
  ∃ (h : Hd) (vE vD : Value) (k : Int) (b : Nat), e = .returned (.tuple #[.agg #[.string h.name, vE, vD], .int .i64 k, .bool o.isSome]) ∧ w.heap.size ≤ b ∧
    w'.ownsRow b 57 2 vE h.ents.length (h.ents.flatMap Dcl.cells) ∧ w'.ownsRow b 54 5 vD h.defs.length (h.defs.flatMap Df.cells) ∧ (∀ j, vE.ownBlock = some j → ¬ vD.ownBlock = some j) ∧
    (match o with | none => h = ⟨⟨#[]⟩, [], []⟩ ∧ k = 0 | some q => h = q.1 ∧ k = (q.2 : Nat)) ∧ Below w.heap.size w w'
theorem HdOut.none {w w' : World} {o : Option (Hd × Nat)} (h : o = .none) (hb : Below w.heap.size w w') : HdOut w o (.returned (.tuple #[.agg #[.string ⟨#[]⟩, .slice .none 0 0, .slice .none 0 0], .int .i64 0, .bool false])) w' := by
  subst h
  exact ⟨⟨⟨#[]⟩, [], []⟩, _, _, 0, w.heap.size, rfl, Nat.le_refl _, World.ownsRow_nil _ _ _ _, World.ownsRow_nil _ _ _ _, (fun j e => by cases e), ⟨rfl, rfl⟩, hb⟩
theorem HdOut.some {w w' : World} {o : Option (Hd × Nat)} {n : ByteArray} {vE vD : Value} {es : List Dcl} {ds : List Df} {k b : Nat} {kk : Int} (h : o = .some (⟨n, es, ds⟩, k)) (hk : kk = (k : Nat)) (hb : w.heap.size ≤ b)
    (hE : w'.ownsRow b 57 2 vE es.length (es.flatMap Dcl.cells)) (hD : w'.ownsRow b 54 5 vD ds.length (ds.flatMap Df.cells)) (hne : ∀ j, vE.ownBlock = .some j → ¬ vD.ownBlock = .some j) (hB : Below w.heap.size w w') :
    HdOut w o (.returned (.tuple #[.agg #[.string n, vE, vD], .int .i64 kk, .bool true])) w' := by
  subst h hk
  exact ⟨⟨n, es, ds⟩, vE, vD, _, b, rfl, hb, hE, hD, hne, ⟨rfl, rfl⟩, hB⟩
theorem rdU_set {w : World} {g : Nat} {s : ByteArray} {a : Int} (h : w.heap[g]? = some (.cells #[.string s, .int .i64 a, .bool false] 95 (0, 0))) (b : Int) : (w.setCell ⟨g, 1, none⟩ (.int .i64 b)).heap[g]? = some (.cells #[.string s, .int .i64 b, .bool false] 95 (0, 0)) :=
  heap_setCell_same _ g 1 _ _ _ h
theorem l7IsU_calls (s t : ByteArray) (a : Int) (g : Nat) (w : World) (hs : s.size ≤ 1000000000) (ht : t.size ≤ 1000) (hlo : -9223372036854775808 ≤ a) (hhi : a ≤ 9223372036854775807)
    (h : w.heap[g]? = some (.cells #[.string s, .int .i64 a, .bool false] 95 (0, 0))) :
    Calls Tryz.prog 63 #[.pointer (some ⟨g, 0, none⟩), .string t] w fun e w' => e = .returned (.bool (isAtB s t a)) ∧ w'.heap[g]? = some (.cells #[.string s, .int .i64 (if isAtB s t a = true then a + t.size else a), .bool false] 95 (0, 0)) ∧ Moved g w w' := by
  obtain ⟨c0, c1, c2, f0, f1, f2⟩ := cells3 h
  have hgl : g < w.heap.size := (Array.getElem?_eq_some_iff.1 h).1
  have C0 := later_cell c0 hgl
  have C1 := later_cell c1 hgl
  have C2 := later_cell c2 hgl
  have hroom : isAtB s t a = true → 0 ≤ a ∧ a + t.size ≤ s.size := by
    intro e
    rw [isAtB, Bool.and_eq_true, Bool.and_eq_true, decide_eq_true_eq, decide_eq_true_eq] at e
    exact ⟨e.1, e.2.1⟩
  have HI := Aside0.mk (fun W => l6Is_calls s t a W hs (by omega) hhi hlo)
  have HR := Aside0.mk h
  obtain ⟨r, hr⟩ : ∃ r, r = isAtB s t a := ⟨_, rfl⟩
  rw [← hr] at HI hroom ⊢
  clear hr c0 c1 c2 f0 f1 f2 h
  go_enter Tryz.func63, Tryz.ntmps63
  go_upto_region 1 with fail
  refine wp_region_later (by kernel_rfl) (by kernel_rfl) ?_
  repeat (go_big_quiet_step ((go_at_call 86; exact later_call ((HI.out _).mono (fun _ _ h => ⟨h.1, by rw [h.2]; exact Below.refl _ _⟩)))))
  refine wpQuiet_nil ?_
  rintro _ ⟨⟨W1, hb1⟩, rfl⟩
  clear C0 C1 C2
  have h1 := (hb1.block g hgl).trans HR.out
  obtain ⟨c0, c1, c2, f0, f1, f2⟩ := cells3 h1
  cases r with
  | false =>
    go_wp2
    go_ret
    exact ⟨rfl, h1, Moved.of hb1⟩
  | true =>
    have hq := hroom rfl
    have hn := Aside0.mk (rdU_set h1 (a + (t.size : Int)))
    have hm := Aside0.mk (((Moved.of hb1 : Moved g w _)).set (o := 1) (u := .int .i64 (a + (t.size : Int))))
    replace h1 := Aside0.mk h1
    have i1 : a + (t.size : Int) ≤ 9223372036854775807 := by omega
    clear hroom
    go_wp2
    go_ret
    exact ⟨rfl, hn.out, hm.out⟩
theorem l7MustU_calls (s : ByteArray) (a : Int) (g : Nat) (w : World) (hlo : -9223372036854775808 ≤ a) (hhi : a ≤ 9223372036854775807) (h : w.heap[g]? = some (.cells #[.string s, .int .i64 a, .bool false] 95 (0, 0))) :
    Calls Tryz.prog 62 #[.pointer (some ⟨g, 0, none⟩), .bool false] w fun e w' => e = .returned (.tuple #[]) ∧ Rd w' g s a true ∧ Moved g w w' := by
  obtain ⟨c0, c1, c2, f0, f1, f2⟩ := cells3 h
  have HT := Aside0.mk (show Rd (w.setCell ⟨g, 2, none⟩ (.bool true)) g s a true from ⟨heap_setCell_same w g 2 _ _ _ h, hlo, hhi, fun e => by cases e⟩)
  clear h
  go_enter Tryz.func62, Tryz.ntmps62
  go_wp2
  go_end0
  exact ⟨rfl, HT.out, (Moved.refl g w).set⟩
theorem isAt_roomI {s t : ByteArray} {a : Int} (h : isAtB s t a = true) : 0 ≤ a ∧ a + t.size ≤ s.size := by
  rw [isAtB, Bool.and_eq_true, Bool.and_eq_true, decide_eq_true_eq, decide_eq_true_eq] at h
  exact ⟨h.1, h.2.1⟩
def tailO (s n : ByteArray) (q : List Dcl × List Df × Nat) : Option (Hd × Nat) := if isAtB s ⟨#[62]⟩ (q.2.2 : Nat) = true then some (⟨n, q.1, q.2.1⟩, q.2.2 + 1) else none
theorem head_law1 {s n : ByteArray} {a a3 a5 : Int} {q3 q4 q5 q6 : Bool} (ha3 : a3 = if isAtB s ⟨#[60, 33, 68, 79, 67, 84, 89, 80, 69]⟩ a = true then a + 9 else a) (h3 : q3 = !isAtB s ⟨#[60, 33, 68, 79, 67, 84, 89, 80, 69]⟩ a)
    (h4 : q4 = (q3 || !decide ((1 : Int) ≤ blanksI s a3 - a3)))
    (h5 : q4 = false → ∀ n' k', nameI s (blanksI s a3) = some (n', k') → n = n' ∧ a5 = (k' : Nat) ∧ q5 = false) (h5b : q4 = true ∨ nameI s (blanksI s a3) = none → q5 = true)
    (h6 : q6 = (q5 || !decide ((0 : Int) ≤ blanksI s a5 - a5))) :
    (q6 = false → ∃ k : Nat, blanksI s a5 = (k : Nat) ∧ k ≤ s.size ∧ headO s a = (restO s k).bind (tailO s n)) ∧ (q6 = true → headO s a = none) := by
  have m5 : q5 = true → q6 = true := fun e => by rw [h6, e]; rfl
  unfold headO
  cases hd : isAtB s ⟨#[60, 33, 68, 79, 67, 84, 89, 80, 69]⟩ a with
  | false =>
    rw [hd] at h3
    have : q6 = true := m5 (h5b (.inl (by rw [h4, h3]; rfl)))
    exact ⟨fun e => (by rw [this] at e; cases e), fun _ => rfl⟩
  | true =>
    rw [hd] at h3 ha3
    have h3 : q3 = false := h3
    have ha3 : a3 = a + 9 := ha3
    subst h3
    have hr : 0 ≤ a ∧ a + 9 ≤ s.size := by
      rw [isAtB, Bool.and_eq_true, Bool.and_eq_true, decide_eq_true_eq, decide_eq_true_eq] at hd
      exact ⟨hd.1, hd.2.1⟩
    obtain ⟨k, rfl⟩ : ∃ k : Nat, a = k := ⟨a.toNat, by omega⟩
    have e3 : a3 = ((k + 9 : Nat) : Int) := by rw [ha3]; omega
    subst e3
    rw [if_pos rfl, Int.toNat_natCast]
    rcases (gap_q h4).2 rfl with ⟨g1, e1⟩ | ⟨g1, e1⟩
    · rw [g1]
      simp only [Option.bind_some]
      have bl := (blanksN_le s (k + 9)).2 (by omega)
      rw [blanksI_nat, nameI_nat bl] at h5 h5b
      cases hn : nameO s (blanksN s (k + 9)) with
      | none =>
        have := m5 (h5b (.inr hn))
        exact ⟨fun e => (by rw [this] at e; cases e), fun _ => rfl⟩
      | some p =>
        obtain ⟨n1, k1⟩ := p
        obtain ⟨e2, e4, e5⟩ := h5 e1 n1 k1 hn
        subst e2 e4 e5
        have hk1 := nameO_next bl hn
        have hb2 := blanksN_le s k1
        rw [blanksI_nat, decide_eq_true (by omega)] at h6
        refine ⟨fun _ => ⟨blanksN s k1, blanksI_nat k1, hb2.2 (by omega), rfl⟩, fun e => by rw [h6] at e; cases e⟩
    · rw [g1]
      have := m5 (h5b (.inl e1))
      exact ⟨fun e => (by rw [this] at e; cases e), fun _ => rfl⟩
/-- A round of the items, once the blanks are gone. -/
def itemsB (s : ByteArray) (b : Nat) (es : List Dcl) (ds : List Df) : Option (List Dcl × List Df × Nat) :=
  if isAtB s ⟨#[93]⟩ (b : Nat) = true then some (es, ds, b + 1)
  else if isAtB s ⟨#[60, 33, 45, 45]⟩ (b : Nat) = true then (hnoteO s (b + 4)).bind fun p => itemsN s p es ds
  else if isAtB s ⟨#[60, 33, 69, 78, 84, 73, 84, 89]⟩ (b : Nat) = true then (entO s (b + 8) es).bind fun q => itemsN s q.2 (es ++ [q.1]) ds
  else if isAtB s ⟨#[60, 33, 65, 84, 84, 76, 73, 83, 84]⟩ (b : Nat) = true then (listO s (b + 9) es ds).bind fun q => itemsN s q.2 es q.1
  else none
theorem items_b {s : ByteArray} {k : Nat} {es : List Dcl} {ds : List Df} (hk : k ≤ s.size) : itemsN s k es ds = itemsB s (blanksN s k) es ds := itemsN_at hk
/-- What is known on the way through the items: O is what comes of them all. -/
def ItAt (s : ByteArray) (O : Option (List Dcl × List Df × Nat)) (a : Int) (q : Bool) (lo : Nat) (es : List Dcl) (ds : List Df) : Prop :=
  (q = false → ∃ k : Nat, a = (k : Nat) ∧ lo ≤ k ∧ k ≤ s.size ∧ O = itemsN s k es ds ∧ entsOk es = true ∧ ds.length ≤ 6) ∧ (q = true → O = none)
def ItIn (s : ByteArray) (O : Option (List Dcl × List Df × Nat)) (a : Int) (q : Bool) (lo : Nat) (es : List Dcl) (ds : List Df) : Prop :=
  (q = false → ∃ k : Nat, a = (k : Nat) ∧ lo ≤ k ∧ k ≤ s.size ∧ O = itemsB s k es ds ∧ entsOk es = true ∧ ds.length ≤ 6) ∧ (q = true → O = none)
theorem ItAt.blanks {s : ByteArray} {O : Option (List Dcl × List Df × Nat)} {a : Int} {q q' : Bool} {lo : Nat} {es : List Dcl} {ds : List Df} (h : ItAt s O a q lo es ds) (hq : q' = (q || !decide ((0 : Int) ≤ blanksI s a - a))) : ItIn s O (blanksI s a) q' lo es ds := by
  cases q with
  | true => exact ⟨fun e => (by rw [hq] at e; cases e), fun _ => h.2 rfl⟩
  | false =>
    obtain ⟨k, rfl, h1, h2, h3, h4, h5⟩ := h.1 rfl
    have hb := blanksN_le s k
    rw [blanksI_nat] at hq ⊢
    rw [decide_eq_true (by omega)] at hq
    exact ⟨fun _ => ⟨blanksN s k, rfl, by omega, hb.2 h2, by rw [h3]; exact items_b h2, h4, h5⟩, fun e => by rw [hq] at e; cases e⟩
end Go.Proofs.YtmfkdgdamepbcaaGreatDoor
end
section
/- HeadAt of the reference: the walk. -/
namespace Go.Proofs.YtmfkdgdamepbcaaGreatDoor
open Go.RowKit Go.Lib
set_option linter.unusedVariables false
set_option linter.unusedSimpArgs false
set_option maxHeartbeats 0
set_option maxRecDepth 100000
theorem RH.setName {n0 base r g : Nat} {s name : ByteArray} {w0 w : World} {a : Int} {q : Bool} {vE vD : Value} {es : List Dcl} {ds : List Df} (h : RH n0 base r g s name w0 w a q vE vD es ds) (n : ByteArray) : RH n0 base r g s n w0 (w.setCell ⟨g, 0, none⟩ (.string n)) a q vE vD es ds := by
  have hm : Moved g w (w.setCell ⟨g, 0, none⟩ (.string n)) := (Moved.refl _ _).set
  obtain ⟨h1, h2, h3⟩ := h.grow (o := 0) (u := .string n) (Hg.ofMoved hm)
  exact ⟨h1, h2, ⟨heap_setCell_same _ g 0 _ _ _ h.hd.heap, h.hd.lt, Nat.le_trans h.hd.le hm.size, hown_moved h.hd.hE hm h.hd.lt, hown_moved h.hd.hD hm h.hd.lt, h.hd.ne⟩, h3, h.hr, h.hg, h.hbs, h.ne, h.rb⟩
theorem head_box {w W3 : World} {s : ByteArray} {a : Int} {r g : Nat} (hr : r = w.heap.size + 1) (hg : g = w.heap.size + 1 + 1) (hW3 : W3 = ((w.alloc (.cells #[.string ⟨#[]⟩, .slice none 0 0, .slice none 0 0] 48 (0, 0))).alloc (.cells #[.string s, .int .i64 a, .bool false] 95 (0, 0))).alloc (.cells #[.string ⟨#[]⟩, .slice none 0 0, .slice none 0 0] 48 (0, 0))) :
    W3.heap[w.heap.size]? = some (.cells #[.string ⟨#[]⟩, .slice none 0 0, .slice none 0 0] 48 (0, 0)) ∧
    W3.heap[r]? = some (.cells #[.string s, .int .i64 a, .bool false] 95 (0, 0)) ∧ HdAt W3 (r + 2) g ⟨#[]⟩ (.slice none 0 0) (.slice none 0 0) [] [] ∧ Below w.heap.size w W3 ∧ W3.heap.size = r + 2 := by
  obtain ⟨W1, hW1⟩ : ∃ W, W = w.alloc (.cells #[.string ⟨#[]⟩, .slice none 0 0, .slice none 0 0] 48 (0, 0)) := ⟨_, rfl⟩
  obtain ⟨W2, hW2⟩ : ∃ W, W = W1.alloc (.cells #[.string s, .int .i64 a, .bool false] 95 (0, 0)) := ⟨_, rfl⟩
  rw [← hW1, ← hW2] at hW3
  have s1 : W1.heap.size = w.heap.size + 1 := by rw [hW1]; exact Array.size_push _
  have s2 : W2.heap.size = w.heap.size + 1 + 1 := by rw [hW2]; exact (Array.size_push _).trans (by rw [s1])
  have s3 : W3.heap.size = w.heap.size + 1 + 1 + 1 := by rw [hW3]; exact (Array.size_push _).trans (by rw [s2])
  have b1 : Below w.heap.size w W1 := by rw [hW1]; exact below_alloc (Below.refl _ _) _
  have b2 : Below W1.heap.size W1 W2 := by rw [hW2]; exact below_alloc (Below.refl _ _) _
  have b3 : Below W2.heap.size W2 W3 := by rw [hW3]; exact below_alloc (Below.refl _ _) _
  have h1 : W1.heap[w.heap.size]? = some (.cells #[.string ⟨#[]⟩, .slice none 0 0, .slice none 0 0] 48 (0, 0)) := by rw [hW1]; exact Array.getElem?_push_size
  have h2 : W2.heap[W1.heap.size]? = some (.cells #[.string s, .int .i64 a, .bool false] 95 (0, 0)) := by rw [hW2]; exact Array.getElem?_push_size
  have h3 : W3.heap[W2.heap.size]? = some (.cells #[.string ⟨#[]⟩, .slice none 0 0, .slice none 0 0] 48 (0, 0)) := by rw [hW3]; exact Array.getElem?_push_size
  rw [s1, ← hr] at h2
  rw [s2, ← hg] at h3
  exact ⟨((below_then b2 b3).block _ (by omega)).trans h1, (b3.block _ (by omega)).trans h2, ⟨h3, by omega, by omega, World.ownsRow_nil _ _ _ _, World.ownsRow_nil _ _ _ _, fun k e => by cases e⟩, below_then b1 (below_then b2 b3), by omega⟩
theorem l7Is_miss (s t : ByteArray) (b g : Nat) (w : World) (hs : s.size ≤ 1000000000) (ht : t.size ≤ 1000) (hm : isAtB s t (b : Nat) = false) (h : Rd w g s (b : Nat) false) :
    Calls Tryz.prog 63 #[.pointer (some ⟨g, 0, none⟩), .string t] w fun e w' => e = .returned (.bool false) ∧ Rd w' g s (b : Nat) false ∧ Moved g w w' := by
  have := l7Is_calls s t (b : Nat) false g w hs ht h
  rw [hm] at this
  exact this
theorem l7Is_hit (s t : ByteArray) (b g n : Nat) (w : World) (hs : s.size ≤ 1000000000) (ht : t.size = n) (hn : n ≤ 1000) (hm : isAtB s t (b : Nat) = true) (h : Rd w g s (b : Nat) false) :
    Calls Tryz.prog 63 #[.pointer (some ⟨g, 0, none⟩), .string t] w fun e w' => e = .returned (.bool true) ∧ Rd w' g s ((b + n : Nat) : Int) false ∧ Moved g w w' := by
  have := l7Is_calls s t (b : Nat) false g w hs (by omega) h
  rw [hm, ht] at this
  exact this
theorem it_note {s : ByteArray} {O : Option (List Dcl × List Df × Nat)} {b : Nat} {es : List Dcl} {ds : List Df} {a : Int} {q : Bool} (hO : O = itemsB s b es ds) (n1 : isAtB s ⟨#[93]⟩ (b : Nat) = false) (y : isAtB s ⟨#[60, 33, 45, 45]⟩ (b : Nat) = true) (hes : entsOk es = true) (hds : ds.length ≤ 6)
    (h1 : ∀ k, hnoteO s (b + 4) = some k → a = (k : Nat) ∧ q = false) (h2 : hnoteO s (b + 4) = none → q = true) : ItAt s O a q (b + 1) es ds := by
  rw [itemsB, n1, if_neg (by decide), if_pos y] at hO
  cases e : hnoteO s (b + 4) with
  | none => exact ⟨fun e2 => (by rw [h2 e] at e2; cases e2), fun _ => (by rw [hO, e]; rfl)⟩
  | some k =>
    obtain ⟨e1, e2⟩ := h1 k e
    have := hnoteO_next (isAt_room y) e
    exact ⟨fun _ => ⟨k, e1, (by omega), this.2, (by rw [hO, e]; rfl), hes, hds⟩, fun e3 => by rw [e2] at e3; cases e3⟩
theorem it_ent {s : ByteArray} {O : Option (List Dcl × List Df × Nat)} {b : Nat} {es es' : List Dcl} {ds : List Df} {a : Int} {q : Bool} (hO : O = itemsB s b es ds) (n1 : isAtB s ⟨#[93]⟩ (b : Nat) = false) (n2 : isAtB s ⟨#[60, 33, 45, 45]⟩ (b : Nat) = false) (y : isAtB s ⟨#[60, 33, 69, 78, 84, 73, 84, 89]⟩ (b : Nat) = true) (hds : ds.length ≤ 6)
    (h1 : ∀ d nx, entO s (b + 8) es = some (d, nx) → es' = es ++ [d] ∧ a = (nx : Nat) ∧ q = false) (h2 : entO s (b + 8) es = none → q = true) : ItAt s O a q (b + 1) es' ds := by
  rw [itemsB, n1, if_neg (by decide), n2, if_neg (by decide), if_pos y] at hO
  cases e : entO s (b + 8) es with
  | none => exact ⟨fun e2 => (by rw [h2 e] at e2; cases e2), fun _ => (by rw [hO, e]; rfl)⟩
  | some p =>
    obtain ⟨d, nx⟩ := p
    obtain ⟨e1, e2, e3⟩ := h1 d nx e
    have := entO_next (isAt_room y) e
    subst e1
    exact ⟨fun _ => ⟨nx, e2, (by omega), this.2.1, (by rw [hO, e]; rfl), this.2.2, hds⟩, fun e4 => by rw [e3] at e4; cases e4⟩
theorem it_list {s : ByteArray} {O : Option (List Dcl × List Df × Nat)} {b : Nat} {es : List Dcl} {ds ds' : List Df} {a : Int} {q : Bool} (hO : O = itemsB s b es ds) (n1 : isAtB s ⟨#[93]⟩ (b : Nat) = false) (n2 : isAtB s ⟨#[60, 33, 45, 45]⟩ (b : Nat) = false) (n3 : isAtB s ⟨#[60, 33, 69, 78, 84, 73, 84, 89]⟩ (b : Nat) = false) (y : isAtB s ⟨#[60, 33, 65, 84, 84, 76, 73, 83, 84]⟩ (b : Nat) = true) (hes : entsOk es = true)
    (h1 : ∀ d nx, listO s (b + 9) es ds = some (d, nx) → ds' = d ∧ a = (nx : Nat) ∧ q = false ∧ ds'.length ≤ 6) (h2 : listO s (b + 9) es ds = none → q = true) : ItAt s O a q (b + 1) es ds' := by
  rw [itemsB, n1, if_neg (by decide), n2, if_neg (by decide), n3, if_neg (by decide), if_pos y] at hO
  cases e : listO s (b + 9) es ds with
  | none => exact ⟨fun e2 => (by rw [h2 e] at e2; cases e2), fun _ => (by rw [hO, e]; rfl)⟩
  | some p =>
    obtain ⟨d, nx⟩ := p
    obtain ⟨e1, e2, e3, e5⟩ := h1 d nx e
    have := listO_next (isAt_room y) e
    subst e1
    exact ⟨fun _ => ⟨nx, e2, (by omega), this.2, (by rw [hO, e]; rfl), hes, e5⟩, fun e4 => by rw [e3] at e4; cases e4⟩
theorem it_none {s : ByteArray} {O : Option (List Dcl × List Df × Nat)} {b : Nat} {es : List Dcl} {ds : List Df} {a : Int} (hO : O = itemsB s b es ds) (n1 : isAtB s ⟨#[93]⟩ (b : Nat) = false) (n2 : isAtB s ⟨#[60, 33, 45, 45]⟩ (b : Nat) = false) (n3 : isAtB s ⟨#[60, 33, 69, 78, 84, 73, 84, 89]⟩ (b : Nat) = false) (n4 : isAtB s ⟨#[60, 33, 65, 84, 84, 76, 73, 83, 84]⟩ (b : Nat) = false) : ItAt s O a true (b + 1) es ds := by
  rw [itemsB, n1, if_neg (by decide), n2, if_neg (by decide), n3, if_neg (by decide), n4, if_neg (by decide)] at hO
  exact ⟨fun e => (by cases e), fun _ => hO⟩
theorem it_end {s : ByteArray} {O : Option (List Dcl × List Df × Nat)} {b : Nat} {es : List Dcl} {ds : List Df} (hO : O = itemsB s b es ds) (y : isAtB s ⟨#[93]⟩ (b : Nat) = true) : O = some (es, ds, b + 1) := by
  rw [itemsB, if_pos y] at hO
  exact hO
theorem specHeadAt_calls (s : ByteArray) (a : Int) (w : World) (hs : s.size ≤ 1048576) (ha0 : -9223372036854775808 ≤ a) (ha1 : a ≤ 9223372036854775807) :
    Calls Tryz.prog 24 #[.string s, .int .i64 a] w (HdOut w (headO s a)) := by
  obtain ⟨O, hO⟩ : ∃ O, O = headO s a := ⟨_, rfl⟩
  rw [← hO]
  replace hO := Aside0.mk hO
  obtain ⟨r, hr⟩ : ∃ r, r = w.heap.size + 1 := ⟨_, rfl⟩
  obtain ⟨g, hg⟩ : ∃ g, g = w.heap.size + 1 + 1 := ⟨_, rfl⟩
  obtain ⟨W3, hW3⟩ : ∃ W, W = ((w.alloc (.cells #[.string ⟨#[]⟩, .slice none 0 0, .slice none 0 0] 48 (0, 0))).alloc (.cells #[.string s, .int .i64 a, .bool false] 95 (0, 0))).alloc (.cells #[.string ⟨#[]⟩, .slice none 0 0, .slice none 0 0] 48 (0, 0)) := ⟨_, rfl⟩
  obtain ⟨hres, hrd, hhd, hb1, s3⟩ := head_box hr hg hW3
  have HW3 := Aside0.mk hW3
  clear hW3
  have RG := Aside0.mk (fun W (hb : Below r W3 W) => (hb.block w.heap.size (by omega)).trans hres)
  have HB := Aside0.mk (fun W (hb : Below r W3 W) => show Below w.heap.size w W from hb1.trans ⟨hb.os, hb.tape, hb.output, hb.size, fun k hk => hb.block k (by omega)⟩)
  have Hr := Aside0.mk hr
  have Hg := Aside0.mk hg
  have HS3 := Aside0.mk s3
  have HBl := Aside0.mk (fun a q (l : Int) W (h0 : 0 ≤ l) (h1 : l ≤ 1) (h : Rd W r s a q) => l7Blanks_calls s a l q r W (by omega) h h0 h1)
  have HMu := Aside0.mk (fun a q b W (h : Rd W r s a q) => l7Must_calls s a q b r W h)
  have HNm := Aside0.mk (fun a q W (h : Rd W r s a q) => l7NameQ_calls s a q r W (by omega) h)
  have HIs := Aside0.mk (fun t a q W (ht : t.size ≤ 1000) (h : Rd W r s a q) => l7Is_calls s t a q r W (by omega) ht h)
  have HIU := Aside0.mk (l7IsU_calls s ⟨#[60, 33, 68, 79, 67, 84, 89, 80, 69]⟩ a r W3 (by omega) (by decide) ha0 ha1 hrd)
  have HMU := Aside0.mk (fun W h => l7MustU_calls s a r W ha0 ha1 h)
  have HNo := Aside0.mk (fun k W (h : Rd W r s (k : Nat) false) => l7Note_calls s k r W (by omega) h)
  have hlaw1 := Aside0.mk (fun n a3 a5 q3 q4 q5 q6 => @head_law1 s n a a3 a5 q3 q4 q5 q6)
  rw [← hO.out] at hlaw1
  have hroom := isAt_roomI (s := s) (t := ⟨#[60, 33, 68, 79, 67, 84, 89, 80, 69]⟩) (a := a)
  obtain ⟨R0, hR0⟩ : ∃ b, b = isAtB s ⟨#[60, 33, 68, 79, 67, 84, 89, 80, 69]⟩ a := ⟨_, rfl⟩
  rw [← hR0] at HIU hlaw1 hroom
  clear hR0 hres hb1 hO s3
  replace hrd := Aside0.mk hrd
  -- the result is laid, behind a Below
  go_enter Tryz.func24, Tryz.ntmps24
  go_upto_region 3 with fail
  rw [← HW3.out, ← Hg.out, ← Hr.out]
  clear hr hg
  have hne : r ≠ g := by have := Hr.out; have := Hg.out; omega
  have hrb : r < r + 2 := by omega
  have hrg : r ≤ g := by have := Hr.out; have := Hg.out; omega
  go_cut [] (fun wx => ∃ (a3 : Int) (q3 : Bool), RH r (r + 2) r g s ⟨#[]⟩ W3 wx a3 q3 (.slice none 0 0) (.slice none 0 0) [] [] ∧ Aside (a3 = (if R0 = true then a + 9 else a) ∧ q3 = !R0))
  case first =>
    go_wp2_with fail
    refine (HIU.out).mono ?_
    rintro e w3 ⟨rfl, hrd3, hm3⟩
    have hh3 := hhd.moved hm3 (fun e => hne e.symm) hrb
    have hb3 : Below r W3 w3 := hm3.below (Nat.le_refl _) (by have := HS3.out; omega)
    have hs3 : r ≤ w3.heap.size := by have := HS3.out; have := hm3.size; omega
    clear hhd hm3
    cases R0 with
    | true =>
      have hroom := hroom rfl
      have hR3 : Rd w3 r s (a + 9) false := ⟨hrd3, by omega, (by have := hroom.2; omega), fun _ => ⟨by omega, hroom.2⟩⟩
      go_wp2_with fail
      refine (HMu.out _ _ true _ hR3).mono ?_
      rintro e w4 ⟨rfl, r4, m4⟩
      have h4 : RH r (r + 2) r g s ⟨#[]⟩ W3 w4 (a + 9) false _ _ _ _ := ⟨hb3.trans (m4.below (Nat.le_refl _) hs3), r4, hh3.moved m4 (fun e => hne e.symm) hrb, Nat.le_trans hs3 m4.size, Nat.le_refl _, hrg, by omega, hne, hrb⟩
      clear r4 m4 hR3 hrd3 hh3
      replace h4 := Aside0.mk h4
      go_wp2_with fail
      go_meet
      exact ⟨_, _, h4.out, rfl, rfl⟩
    | false =>
      go_wp2_with fail
      refine (HMU.out _ hrd3).mono ?_
      rintro e w4 ⟨rfl, r4, m4⟩
      have h4 : RH r (r + 2) r g s ⟨#[]⟩ W3 w4 a true _ _ _ _ := ⟨hb3.trans (m4.below (Nat.le_refl _) hs3), r4, hh3.moved m4 (fun e => hne e.symm) hrb, Nat.le_trans hs3 m4.size, Nat.le_refl _, hrg, by omega, hne, hrb⟩
      clear r4 m4 hrd3 hh3
      replace h4 := Aside0.mk h4
      go_wp2_with fail
      go_meet
      exact ⟨_, _, h4.out, rfl, rfl⟩
  case rest =>
  clear hhd hroom hrd HIU HMU
  obtain ⟨a3, q3, h3, hc3⟩ := hcut
  replace hc3 := Aside0.mk hc3
  obtain ⟨b4, hb4⟩ : ∃ b, b = blanksI s a3 := ⟨_, rfl⟩
  obtain ⟨q4, hq4⟩ : ∃ q, q = (q3 || !decide ((1 : Int) ≤ b4 - a3)) := ⟨_, rfl⟩
  have H4 := Aside0.mk (HBl.out _ _ 1 _ (by decide) (by decide) h3.rd)
  rw [← hb4, ← hq4] at H4
  rw [hb4] at hq4
  replace hq4 := Aside0.mk hq4
  replace hb4 := Aside0.mk hb4
  go_wp2_with fail
  refine (H4.out).mono ?_
  rintro e w4 ⟨rfl, r4, m4⟩
  replace h3 := h3.step r4 m4
  clear r4 m4 H4
  go_wp2_with fail
  refine (HNm.out _ _ _ h3.rd).mono ?_
  rintro e w5 ⟨n, a5, q5, rfl, hnz, r5, m5, hn1, hn2⟩
  replace h3 := h3.step r5 m5
  rw [hb4.out] at hn1 hn2
  replace hn1 := Aside0.mk hn1
  replace hn2 := Aside0.mk hn2
  clear r5 m5
  obtain ⟨e0, e1, e2, k0, k1, k2⟩ := h3.hd.cells
  go_upto_region 6 with fail
  obtain ⟨X5, hX5⟩ : ∃ X, X = w5.setCell ⟨g, 0, none⟩ (.string n) := ⟨_, rfl⟩
  replace h3 := h3.setName n
  rw [← hX5] at h3 ⊢
  clear hX5 e0 e1 e2 k0 k1 k2
  obtain ⟨a6, ha6⟩ : ∃ b, b = blanksI s a5 := ⟨_, rfl⟩
  obtain ⟨q6, hq6⟩ : ∃ q, q = (q5 || !decide ((0 : Int) ≤ a6 - a5)) := ⟨_, rfl⟩
  have H6 := Aside0.mk (HBl.out _ _ 0 _ (by decide) (by decide) h3.rd)
  rw [← ha6, ← hq6] at H6
  rw [ha6] at hq6
  have hl6 := hlaw1.out n a3 a5 q3 q4 q5 q6 hc3.out.1 hc3.out.2 hq4.out hn1.out hn2.out hq6
  rw [← ha6] at hl6
  replace hl6 := Aside0.mk hl6
  clear ha6 hq6 hc3 hq4 hb4 hn1 hn2
  go_wp2_with fail
  refine (H6.out).mono ?_
  rintro e w6 ⟨rfl, r6, m6⟩
  replace h3 := h3.step r6 m6
  clear r6 m6 H6
  obtain ⟨br, hbr⟩ : ∃ x, x = (!q6 && isAtB s ⟨#[91]⟩ a6) := ⟨_, rfl⟩
  obtain ⟨a7, ha7⟩ : ∃ x : Int, x = (if br = true then a6 + ((⟨#[91]⟩ : ByteArray).size : Int) else a6) := ⟨_, rfl⟩
  have H7 := Aside0.mk (HIs.out ⟨#[91]⟩ _ _ _ (by decide) h3.rd)
  rw [← hbr, ← ha7] at H7
  replace hbr := Aside0.mk hbr
  replace ha7 := Aside0.mk ha7
  go_wp2_with fail
  refine (H7.out).mono ?_
  rintro e w7 ⟨rfl, r7, m7⟩
  replace h3 := h3.step r7 m7
  clear r7 m7 H7
  go_upto_if 26 with fail
  go_cut [] (fun wx => ∃ (a : Int) (q : Bool) (vE vD : Value) (es : List Dcl) (ds : List Df), RH r (r + 2) r g s n W3 wx a q vE vD es ds ∧ Aside ((q = false → ∃ k : Nat, a = (k : Nat) ∧ k ≤ s.size ∧ O = tailO s n (es, ds, k)) ∧ (q = true → O = none)))
  case first =>
    cases br with
    | false =>
      have hfin := Aside0.mk (show (q6 = false → ∃ k : Nat, a7 = (k : Nat) ∧ k ≤ s.size ∧ O = tailO s n ([], [], k)) ∧ (q6 = true → O = none) from
        ⟨fun e => by
          obtain ⟨k, e1, e2, e3⟩ := hl6.out.1 e
          have hb := hbr.out
          rw [e, e1] at hb
          have hb : isAtB s ⟨#[91]⟩ (k : Nat) = false := hb.symm
          refine ⟨k, by rw [ha7.out]; exact e1, e2, ?_⟩
          rw [e3, restO, if_neg (by rw [hb]; decide)]; rfl, hl6.out.2⟩)
      replace h3 := Aside0.mk h3
      go_wp2_with fail
      go_meet
      exact ⟨_, _, _, _, _, _, h3.out, hfin.out⟩
    | true =>
      have hst : ∃ k : Nat, q6 = false ∧ a7 = ((k + 1 : Nat) : Int) ∧ k + 1 ≤ s.size ∧ O = ((itemsN s (k + 1) [] []).map fun q => (q.1, q.2.1, blanksN s q.2.2)).bind (tailO s n) := by
        cases e : q6 with
        | true => have := hbr.out; rw [e] at this; cases this
        | false =>
          obtain ⟨k, e1, e2, e3⟩ := hl6.out.1 e
          have hb := hbr.out
          rw [e, e1] at hb
          have hb : isAtB s ⟨#[91]⟩ (k : Nat) = true := hb.symm
          have hr : k + 1 ≤ s.size := isAt_room hb
          refine ⟨k, rfl, by rw [ha7.out, if_pos rfl, e1]; rfl, hr, ?_⟩
          rw [e3, restO, if_pos hb]
      obtain ⟨k, e1, e2, hk1, hO⟩ := hst
      subst e1 e2
      obtain ⟨O1, hO1⟩ : ∃ x, x = itemsN s (k + 1) [] [] := ⟨_, rfl⟩
      rw [← hO1] at hO
      have hit : ItAt s O1 ((k + 1 : Nat) : Int) false 0 [] [] := ⟨fun _ => ⟨k + 1, rfl, Nat.zero_le _, hk1, hO1, ents_nil, Nat.zero_le _⟩, fun e => by cases e⟩
      replace hO := Aside0.mk hO
      clear hO1 hl6 hbr ha7 hk1
      obtain ⟨b8, hb8⟩ : ∃ b, b = blanksI s ((k + 1 : Nat) : Int) := ⟨_, rfl⟩
      obtain ⟨q8, hq8⟩ : ∃ q, q = (false || !decide ((0 : Int) ≤ b8 - ((k + 1 : Nat) : Int))) := ⟨_, rfl⟩
      have H8 := Aside0.mk (HBl.out _ _ 0 _ (by decide) (by decide) h3.rd)
      rw [← hb8, ← hq8] at H8
      rw [hb8] at hq8
      have hin := hit.blanks hq8
      rw [← hb8] at hin
      replace hin := Aside0.mk hin
      clear hit hb8 hq8
      go_wp2_with fail
      refine (H8.out).mono ?_
      rintro e w8 ⟨rfl, r8, m8⟩
      replace h3 := h3.step r8 m8
      clear r8 m8 H8
      go_wp2_with fail
      go_loopg [] (if q8 = true then 0 else s.size - b8.toNat + 1) (fun gd wx => ∃ (a : Int) (q : Bool) (vE vD : Value) (es : List Dcl) (ds : List Df), gd = (if q = true then 0 else s.size - a.toNat + 1) ∧ RH r (r + 2) r g s n W3 wx a q vE vD es ds ∧ Aside (ItIn s O1 a q 0 es ds))
      case atStart => exact ⟨_, _, _, _, _, _, rfl, h3, hin.out⟩
      case round =>
        clear hin h3
        obtain ⟨a, q, vE, vD, es, ds, rfl, h3, hin⟩ := hrel
        replace hin := Aside0.mk hin
        obtain ⟨c0, c1, c2, f1, f2⟩ := h3.rd.cells
        -- behind the items
        -- behind a round
        cases q with
        | true =>
          have hn := Aside0.mk (show O = none by rw [hO.out, hin.out.2 rfl]; rfl)
          go_upto_region 18 with fail
          clear c0 c1 c2 f1 f2
          obtain ⟨b9, hb9⟩ : ∃ x, x = blanksI s a := ⟨_, rfl⟩
          obtain ⟨q9, hq9⟩ : ∃ x, x = (true || !decide ((0 : Int) ≤ b9 - a)) := ⟨_, rfl⟩
          have H9 := Aside0.mk (HBl.out _ _ 0 _ (by decide) (by decide) h3.rd)
          rw [← hb9, ← hq9] at H9
          rw [hb9] at hq9
          have hfin := Aside0.mk (show (q9 = false → ∃ k : Nat, b9 = (k : Nat) ∧ k ≤ s.size ∧ O = tailO s n (es, ds, k)) ∧ (q9 = true → O = none) from ⟨fun e => (by rw [hq9] at e; cases e), fun _ => hn.out⟩)
          clear hq9 hb9
          go_wp2_with fail
          refine (H9.out).mono ?_
          rintro e w9 ⟨rfl, r9, m9⟩
          replace h3 := Aside0.mk (h3.step r9 m9)
          clear r9 m9 H9
          go_wp2_with fail
          go_meet
          exact ⟨_, _, _, _, _, _, h3.out, hfin.out⟩
        | false =>
        obtain ⟨b, hab, _, hbs, hOb, hes, hds⟩ := hin.out.1 rfl
        subst hab
        clear hin
        replace hOb := Aside0.mk hOb
        have hbi : (b : Int) ≤ (s.size : Int) := by omega
        clear c0 c1 c2 f1 f2
        obtain ⟨c0, c1, c2, f1, f2⟩ := h3.rd.cells
        cases h93 : isAtB s ⟨#[93]⟩ (b : Nat) with
        | true =>
          have Hx := Aside0.mk (l7Is_hit s ⟨#[93]⟩ b r 1 _ (by omega) rfl (by decide) h93 h3.rd)
          have hr : b + 1 ≤ s.size := isAt_room h93
          have hn := Aside0.mk (it_end hOb.out h93)
          clear h93
          go_wp2_with fail
          refine (Hx.out).mono ?_
          rintro e w11 ⟨rfl, r11, m11⟩
          replace h3 := h3.step r11 m11
          clear r11 m11 Hx c0 c1 c2 f1 f2
          go_upto_region 18 with fail
          obtain ⟨b9, hb9⟩ : ∃ x, x = blanksI s ((b + 1 : Nat) : Int) := ⟨_, rfl⟩
          obtain ⟨q9, hq9⟩ : ∃ x, x = (false || !decide ((0 : Int) ≤ b9 - ((b + 1 : Nat) : Int))) := ⟨_, rfl⟩
          have H9 := Aside0.mk (HBl.out _ _ 0 _ (by decide) (by decide) h3.rd)
          rw [← hb9, ← hq9] at H9
          rw [hb9] at hq9
          have hfin := Aside0.mk (show (q9 = false → ∃ k : Nat, b9 = (k : Nat) ∧ k ≤ s.size ∧ O = tailO s n (es, ds, k)) ∧ (q9 = true → O = none) from ⟨fun e => ⟨blanksN s (b + 1), by rw [hb9]; exact blanksI_nat _, (blanksN_le _ _).2 hr, by rw [hO.out, hn.out]; rfl⟩, fun e => by rw [hq9, blanksI_nat, decide_eq_true (by have := (blanksN_le s (b + 1)).1; omega)] at e; cases e⟩)
          clear hq9 hb9
          go_wp2_with fail
          refine (H9.out).mono ?_
          rintro e w9 ⟨rfl, r9, m9⟩
          replace h3 := Aside0.mk (h3.step r9 m9)
          clear r9 m9 H9
          go_wp2_with fail
          go_meet
          exact ⟨_, _, _, _, _, _, h3.out, hfin.out⟩
        | false =>
          have h93 := Aside0.mk h93
          have M1 := Aside0.mk (fun W h => l7Is_miss s ⟨#[93]⟩ b r W (by omega) (by decide) h93.out h)
          go_wp2_with fail
          refine (M1.out _ h3.rd).mono ?_
          rintro e w11 ⟨rfl, r11, m11⟩
          replace h3 := h3.step r11 m11
          clear r11 m11 M1 c0 c1 c2 f1 f2
          cases h60 : isAtB s ⟨#[60, 33, 45, 45]⟩ (b : Nat) with
          | true =>
            have h60 := Aside0.mk h60
            have M2 := Aside0.mk (fun W h => l7Is_hit s ⟨#[60, 33, 45, 45]⟩ b r 4 W (by omega) rfl (by decide) h60.out h)
            go_wp2_with fail
            refine (M2.out _ h3.rd).mono ?_
            rintro e w12 ⟨rfl, r12, m12⟩
            replace h3 := h3.step r12 m12
            clear r12 m12 M2
            go_wp2_with fail
            refine (HNo.out _ _ h3.rd).mono ?_
            rintro e w13 ⟨rfl, a13, q13, r13, m13, hh1, hh2⟩
            replace h3 := h3.step r13 m13
            replace hh1 := Aside0.mk hh1
            replace hh2 := Aside0.mk hh2
            clear r13 m13
            go_upto_region 10 with fail
            obtain ⟨b10, hb10⟩ : ∃ x, x = blanksI s a13 := ⟨_, rfl⟩
            obtain ⟨q10, hq10⟩ : ∃ x, x = (q13 || !decide ((0 : Int) ≤ b10 - a13)) := ⟨_, rfl⟩
            have H10 := Aside0.mk (HBl.out _ _ 0 _ (by decide) (by decide) h3.rd)
            rw [← hb10, ← hq10] at H10
            rw [hb10] at hq10
            have hnx := ItAt.blanks (it_note hOb.out h93.out h60.out hes hds hh1.out hh2.out) hq10
            rw [← hb10] at hnx
            replace hnx := Aside0.mk hnx
            clear hq10 hb10
            go_wp2_with fail
            refine (H10.out).mono ?_
            rintro e w10 ⟨rfl, r10, m10⟩
            replace h3 := Aside0.mk (h3.step r10 m10)
            clear r10 m10 H10
            go_wp2
            go_roundg (if q10 = true then 0 else s.size - b10.toNat + 1)
            case measure =>
              have := hnx.out
              cases q10 with
              | true => simp
              | false =>
                obtain ⟨k', e1, e2, e3, _⟩ := this.1 rfl
                rw [e1]
                simp
                omega
            case rel =>
              refine ⟨b10, q10, _, _, _, _, rfl, h3.out, fun h => ?_, hnx.out.2⟩
              obtain ⟨k', e1, e2, e3⟩ := hnx.out.1 h
              exact ⟨k', e1, Nat.zero_le _, e3⟩
          | false =>
          have h60 := Aside0.mk h60
          have M2 := Aside0.mk (fun W h => l7Is_miss s ⟨#[60, 33, 45, 45]⟩ b r W (by omega) (by decide) h60.out h)
          go_wp2_with fail
          refine (M2.out _ h3.rd).mono ?_
          rintro e w12 ⟨rfl, r12, m12⟩
          replace h3 := h3.step r12 m12
          clear r12 m12 M2
          cases h69 : isAtB s ⟨#[60, 33, 69, 78, 84, 73, 84, 89]⟩ (b : Nat) with
          | true =>
            have h69 := Aside0.mk h69
            have M3 := Aside0.mk (fun W h => l7Is_hit s ⟨#[60, 33, 69, 78, 84, 73, 84, 89]⟩ b r 8 W (by omega) rfl (by decide) h69.out h)
            go_wp2_with fail
            refine (M3.out _ h3.rd).mono ?_
            rintro e w13 ⟨rfl, r13, m13⟩
            replace h3 := h3.step r13 m13
            clear r13 m13 M3
            go_wp2_with fail
            refine (l7Entity_calls r (r + 2) r g s n (b + 8) vE vD es ds W3 _ hs hes h3).mono ?_
            rintro e w14 ⟨rfl, hEn⟩
            clear h3
            obtain ⟨a13, q13, vE13, es13, h3, hh1, hh2⟩ := hEn
            replace hh1 := Aside0.mk hh1
            replace hh2 := Aside0.mk hh2
            go_upto_region 10 with fail
            obtain ⟨b10, hb10⟩ : ∃ x, x = blanksI s a13 := ⟨_, rfl⟩
            obtain ⟨q10, hq10⟩ : ∃ x, x = (q13 || !decide ((0 : Int) ≤ b10 - a13)) := ⟨_, rfl⟩
            have H10 := Aside0.mk (HBl.out _ _ 0 _ (by decide) (by decide) h3.rd)
            rw [← hb10, ← hq10] at H10
            rw [hb10] at hq10
            have hnx := ItAt.blanks (it_ent hOb.out h93.out h60.out h69.out hds hh1.out hh2.out) hq10
            rw [← hb10] at hnx
            replace hnx := Aside0.mk hnx
            clear hq10 hb10
            go_wp2_with fail
            refine (H10.out).mono ?_
            rintro e w10 ⟨rfl, r10, m10⟩
            replace h3 := Aside0.mk (h3.step r10 m10)
            clear r10 m10 H10
            go_wp2
            go_roundg (if q10 = true then 0 else s.size - b10.toNat + 1)
            case measure =>
              have := hnx.out
              cases q10 with
              | true => simp
              | false =>
                obtain ⟨k', e1, e2, e3, _⟩ := this.1 rfl
                rw [e1]
                simp
                omega
            case rel =>
              refine ⟨b10, q10, _, _, _, _, rfl, h3.out, fun h => ?_, hnx.out.2⟩
              obtain ⟨k', e1, e2, e3⟩ := hnx.out.1 h
              exact ⟨k', e1, Nat.zero_le _, e3⟩
          | false =>
          have h69 := Aside0.mk h69
          have M3 := Aside0.mk (fun W h => l7Is_miss s ⟨#[60, 33, 69, 78, 84, 73, 84, 89]⟩ b r W (by omega) (by decide) h69.out h)
          go_wp2_with fail
          refine (M3.out _ h3.rd).mono ?_
          rintro e w13 ⟨rfl, r13, m13⟩
          replace h3 := h3.step r13 m13
          clear r13 m13 M3
          cases h65 : isAtB s ⟨#[60, 33, 65, 84, 84, 76, 73, 83, 84]⟩ (b : Nat) with
          | true =>
            have h65 := Aside0.mk h65
            have M4 := Aside0.mk (fun W h => l7Is_hit s ⟨#[60, 33, 65, 84, 84, 76, 73, 83, 84]⟩ b r 9 W (by omega) rfl (by decide) h65.out h)
            go_wp2_with fail
            refine (M4.out _ h3.rd).mono ?_
            rintro e w14 ⟨rfl, r14, m14⟩
            replace h3 := h3.step r14 m14
            clear r14 m14 M4
            go_wp2_with fail
            refine (l7List_calls r (r + 2) r g s n (b + 9) vE vD es ds W3 _ hs hes hds h3).mono ?_
            rintro e w15 ⟨rfl, hLs⟩
            clear h3
            obtain ⟨a13, q13, vD13, ds13, h3, hh1, hh2⟩ := hLs
            replace hh1 := Aside0.mk hh1
            replace hh2 := Aside0.mk hh2
            go_upto_region 10 with fail
            obtain ⟨b10, hb10⟩ : ∃ x, x = blanksI s a13 := ⟨_, rfl⟩
            obtain ⟨q10, hq10⟩ : ∃ x, x = (q13 || !decide ((0 : Int) ≤ b10 - a13)) := ⟨_, rfl⟩
            have H10 := Aside0.mk (HBl.out _ _ 0 _ (by decide) (by decide) h3.rd)
            rw [← hb10, ← hq10] at H10
            rw [hb10] at hq10
            have hnx := ItAt.blanks (it_list hOb.out h93.out h60.out h69.out h65.out hes hh1.out hh2.out) hq10
            rw [← hb10] at hnx
            replace hnx := Aside0.mk hnx
            clear hq10 hb10
            go_wp2_with fail
            refine (H10.out).mono ?_
            rintro e w10 ⟨rfl, r10, m10⟩
            replace h3 := Aside0.mk (h3.step r10 m10)
            clear r10 m10 H10
            go_wp2
            go_roundg (if q10 = true then 0 else s.size - b10.toNat + 1)
            case measure =>
              have := hnx.out
              cases q10 with
              | true => simp
              | false =>
                obtain ⟨k', e1, e2, e3, _⟩ := this.1 rfl
                rw [e1]
                simp
                omega
            case rel =>
              refine ⟨b10, q10, _, _, _, _, rfl, h3.out, fun h => ?_, hnx.out.2⟩
              obtain ⟨k', e1, e2, e3⟩ := hnx.out.1 h
              exact ⟨k', e1, Nat.zero_le _, e3⟩
          | false =>
            have h65 := Aside0.mk h65
            have M4 := Aside0.mk (fun W h => l7Is_miss s ⟨#[60, 33, 65, 84, 84, 76, 73, 83, 84]⟩ b r W (by omega) (by decide) h65.out h)
            go_wp2_with fail
            refine (M4.out _ h3.rd).mono ?_
            rintro e w14 ⟨rfl, r14, m14⟩
            replace h3 := h3.step r14 m14
            clear r14 m14 M4
            obtain ⟨c0, c1, c2, f1, f2⟩ := h3.rd.cells
            replace h3 := h3.step h3.rd.setT ((Moved.refl _ _).set (o := 2) (u := .bool true))
            go_upto_region 10 with fail
            clear c0 c1 c2 f1 f2
            obtain ⟨b10, hb10⟩ : ∃ x, x = blanksI s ((b : Nat) : Int) := ⟨_, rfl⟩
            obtain ⟨q10, hq10⟩ : ∃ x, x = (true || !decide ((0 : Int) ≤ b10 - ((b : Nat) : Int))) := ⟨_, rfl⟩
            have H10 := Aside0.mk (HBl.out _ _ 0 _ (by decide) (by decide) h3.rd)
            rw [← hb10, ← hq10] at H10
            rw [hb10] at hq10
            have hnx := ItAt.blanks (it_none hOb.out h93.out h60.out h69.out h65.out) hq10
            rw [← hb10] at hnx
            replace hnx := Aside0.mk hnx
            clear hq10 hb10
            go_wp2_with fail
            refine (H10.out).mono ?_
            rintro e w10 ⟨rfl, r10, m10⟩
            replace h3 := Aside0.mk (h3.step r10 m10)
            clear r10 m10 H10
            go_wp2
            go_roundg (if q10 = true then 0 else s.size - b10.toNat + 1)
            case measure =>
              have := hnx.out
              cases q10 with
              | true => simp
              | false =>
                obtain ⟨k', e1, e2, e3, _⟩ := this.1 rfl
                rw [e1]
                simp
                omega
            case rel =>
              refine ⟨b10, q10, _, _, _, _, rfl, h3.out, fun h => ?_, hnx.out.2⟩
              obtain ⟨k', e1, e2, e3⟩ := hnx.out.1 h
              exact ⟨k', e1, Nat.zero_le _, e3⟩
  case rest =>
  clear h3
  obtain ⟨a8, q8, vE, vD, es, ds, h3, hc8⟩ := hcut
  replace hc8 := Aside0.mk hc8
  obtain ⟨rr, hrr⟩ : ∃ b, b = (!q8 && isAtB s ⟨#[62]⟩ a8) := ⟨_, rfl⟩
  obtain ⟨a9, ha9⟩ : ∃ b : Int, b = (if rr = true then a8 + ((⟨#[62]⟩ : ByteArray).size : Int) else a8) := ⟨_, rfl⟩
  have H9 := Aside0.mk (HIs.out ⟨#[62]⟩ _ _ _ (by decide) h3.rd)
  rw [← hrr, ← ha9] at H9
  replace hrr := Aside0.mk hrr
  replace ha9 := Aside0.mk ha9
  go_wp2_with fail
  refine (H9.out).mono ?_
  rintro e w9 ⟨rfl, r9, m9⟩
  replace h3 := h3.step r9 m9
  clear r9 m9 H9
  cases rr with
  | false =>
    have hfin := Aside0.mk (show O = none by
      cases e : q8 with
      | true => exact hc8.out.2 e
      | false =>
        obtain ⟨k, e1, e2, e3⟩ := hc8.out.1 e
        have hb := hrr.out
        rw [e, e1] at hb
        have hb : isAtB s ⟨#[62]⟩ (k : Nat) = false := hb.symm
        rw [e3, tailO, if_neg (by rw [hb]; decide)])
    go_wp2_with fail
    refine (HMu.out _ _ false _ h3.rd).mono ?_
    rintro e w10 ⟨rfl, r10, m10⟩
    replace h3 := h3.step r10 m10
    clear r10 m10
    rw [show (q8 || !false) = true by simp] at h3
    obtain ⟨c0, c1, c2, f1, f2⟩ := h3.rd.cells
    have hbx := h3.hb
    go_upto_region 21 with fail
    clear c0 c1 c2 f1 f2 h3
    obtain ⟨r0, r1, r2, f0, f1, f2⟩ := cells3 (RG.out _ hbx)
    go_wp2
    obtain ⟨X1, hX1, hXg1, hXm1⟩ := put3_0 (RG.out _ hbx) (.string ⟨#[]⟩)
    obtain ⟨X2, hX2, hXg2, hXm2⟩ := put3_1 hXg1 ((.slice none 0 0))
    obtain ⟨X, hX, hXg, hXm3⟩ := put3_2 hXg2 ((.slice none 0 0))
    have hXm := (hXm1.trans hXm2).trans hXm3
    rw [← hX1, ← hX2, ← hX]
    clear hX hX1 hX2 hXg1 hXg2 hXm1 hXm2 hXm3 r0 r1 r2 f0 f1 f2
    obtain ⟨p0, p1, p2, _⟩ := cells3 hXg
    refine bodyPost_ret (v := .tuple #[.agg #[.string ⟨#[]⟩, (.slice none 0 0), (.slice none 0 0)], .int .i64 (0), .bool false]) ?hres rfl ((HdOut.none hfin.out (below_moved (HB.out _ hbx) hXm (Nat.le_refl _))))
    case hres => simp [results, Tryz.results24, go_sem, p0, p1, p2]
  | true =>
    have hfin : ∃ k : Nat, a9 = ((k + 1 : Nat) : Int) ∧ q8 = false ∧ O = some (⟨n, es, ds⟩, k + 1) := by
      cases e : q8 with
      | true => have := hrr.out; rw [e] at this; cases this
      | false =>
        obtain ⟨k, e1, e2, e3⟩ := hc8.out.1 e
        have hb := hrr.out
        rw [e, e1] at hb
        have hb : isAtB s ⟨#[62]⟩ (k : Nat) = true := hb.symm
        refine ⟨k, by rw [ha9.out, if_pos rfl, e1]; rfl, rfl, ?_⟩
        rw [e3, tailO, if_pos hb]
    obtain ⟨k, hk1, hk2, hk3⟩ := hfin
    replace hk1 := Aside0.mk hk1
    replace hk3 := Aside0.mk hk3
    subst hk2
    go_wp2_with fail
    refine (HMu.out _ _ true _ h3.rd).mono ?_
    rintro e w10 ⟨rfl, r10, m10⟩
    replace h3 := h3.step r10 m10
    clear r10 m10
    rw [show (false || !true) = false by rfl] at h3
    obtain ⟨c0, c1, c2, f1, f2⟩ := h3.rd.cells
    have hbx := h3.hb
    obtain ⟨AE, cE, hvE, _⟩ := h3.hd.ents
    obtain ⟨AD, cD, hvD, _⟩ := h3.hd.defs
    subst hvE hvD
    obtain ⟨e0, e1, e2, _⟩ := h3.hd.cells
    obtain ⟨r0, r1, r2, f0, f1', f2'⟩ := cells3 (RG.out _ hbx)
    go_upto_region 22 with fail
    have z1 : w.heap.size ≠ r := by have := Hr.out; omega
    have z2 : w.heap.size ≠ g := by have := Hg.out; omega
    go_region_held3 (fun W => W.cell? ⟨r, 1, none⟩ = some (.int .i64 a9) ∧ W.cell? ⟨g, 0, none⟩ = some (.string n) ∧ W.cell? ⟨g, 1, none⟩ = some (.slice AE es.length cE) ∧ W.cell? ⟨g, 2, none⟩ = some (.slice AD ds.length cD)) (go_keep) (first | fail)
    all_goals
      obtain ⟨X1, hX1, hXg1, hXm1⟩ := put3_0 (RG.out _ hbx) (.string n)
      obtain ⟨X2, hX2, hXg2, hXm2⟩ := put3_1 hXg1 (.slice AE es.length cE)
      obtain ⟨X, hX, hXg, hXm3⟩ := put3_2 hXg2 (.slice AD ds.length cD)
      have hXm := (hXm1.trans hXm2).trans hXm3
      rw [← hX1, ← hX2, ← hX]
      clear hX hX1 hX2 hXg1 hXg2 hXm1 hXm2 hXm3 r0 r1 r2 f0 f1' f2' e0 e1 e2 c0 c1 c2 f1 f2
      have hwr : w.heap.size < r + 2 := by have := Hr.out; omega
      have hfin := Aside0.mk (HdOut.some hk3.out hk1.out (Nat.le_of_lt hwr) (own_below (hown_moved h3.hd.hE hXm hwr) (below_drew (Below.refl X.heap.size X))) (own_below (hown_moved h3.hd.hD hXm hwr) (below_drew (Below.refl X.heap.size X))) h3.hd.ne (below_then (below_moved (HB.out _ hbx) hXm (Nat.le_refl _)) (below_drew (Below.refl X.heap.size X))))
      clear h3 hbx
      obtain ⟨p0, p1, p2, _⟩ := cells3 (show X.drew.heap[w.heap.size]? = _ from hXg)
      go_wp2_with fail
      refine bodyPost_ret (v := .tuple #[.agg #[.string n, .slice AE es.length cE, .slice AD ds.length cD], .int .i64 a9, .bool true]) ?hres rfl hfin.out
      case hres => simp [results, Tryz.results24, go_sem, p0, p1, p2]
end Go.Proofs.YtmfkdgdamepbcaaGreatDoor
end
section
/- What a head is good for: right Ents, few Defs. -/
namespace Go.Proofs.YtmfkdgdamepbcaaGreatDoor
open Go.RowKit Go.Lib
set_option linter.unusedVariables false
set_option linter.unusedSimpArgs false
theorem listGo_len (s el : ByteArray) (es : List Dcl) : ∀ (f k : Nat) (ds ds' : List Df) (nx : Nat), k ≤ s.size → ds.length ≤ 6 → listGo s el es f k ds = some (ds', nx) → ds'.length ≤ 6
  | 0, _, _, _, _, _, _, h => by cases h
  | f + 1, k, ds, ds', nx, hk, hl, h => by
    have hb := blanksN_le s k
    rw [listGo] at h
    split at h
    · injection h with h; injection h with h _
      rw [← h]; exact hl
    · cases e : gapO s k with
      | none => rw [e] at h; cases h
      | some b =>
        have hg := gapO_next e
        rw [e] at h
        simp only [Option.bind_some] at h
        cases e2 : defO s b el es ds with
        | none => rw [e2] at h; cases h
        | some q =>
          obtain ⟨x, n2⟩ := q
          have h2 := defO_next (by omega) e2
          rw [e2] at h
          exact listGo_len s el es f n2 (ds ++ [x]) ds' nx h2.2.1 (by rw [List.length_append, List.length_singleton]; exact h2.2.2) h
theorem listO_len {s : ByteArray} {k nx : Nat} {es : List Dcl} {ds ds' : List Df} (hk : k ≤ s.size) (hl : ds.length ≤ 6) (h : listO s k es ds = some (ds', nx)) : ds'.length ≤ 6 := by
  have hb := blanksN_le s k
  unfold listO at h
  cases e : gapO s k with
  | none => rw [e] at h; cases h
  | some b =>
    have hg := gapO_next e
    rw [e] at h
    simp only [Option.bind_some] at h
    cases e2 : nameO s b with
    | none => rw [e2] at h; cases h
    | some p =>
      obtain ⟨n, k1⟩ := p
      have h2 := nameO_next (by omega) e2
      rw [e2] at h
      exact listGo_len s n es _ k1 ds ds' nx h2.2.1 hl h
theorem itemsGo_good (s : ByteArray) : ∀ (f k : Nat) (es es' : List Dcl) (ds ds' : List Df) (nx : Nat), k ≤ s.size → entsOk es = true → ds.length ≤ 6 → itemsGo s f k es ds = some (es', ds', nx) → entsOk es' = true ∧ ds'.length ≤ 6 ∧ nx ≤ s.size
  | 0, _, _, _, _, _, _, _, _, _, h => by cases h
  | f + 1, k, es, es', ds, ds', nx, hk, he, hl, h => by
    have hb := blanksN_le s k
    rw [itemsGo] at h
    split at h
    · rename_i hc
      have hr : blanksN s k + 1 ≤ s.size := isAt_room hc
      injection h with h; injection h with h1 h; injection h with h2 h
      rw [← h1, ← h2]; exact ⟨he, hl, by omega⟩
    split at h
    · rename_i hc
      have hr : blanksN s k + 4 ≤ s.size := isAt_room hc
      cases e : hnoteO s (blanksN s k + 4) with
      | none => rw [e] at h; cases h
      | some p =>
        have := hnoteO_next hr e
        rw [e] at h
        exact itemsGo_good s f p es es' ds ds' nx this.2 he hl h
    split at h
    · rename_i hc
      have hr : blanksN s k + 8 ≤ s.size := isAt_room hc
      cases e : entO s (blanksN s k + 8) es with
      | none => rw [e] at h; cases h
      | some q =>
        obtain ⟨x, p⟩ := q
        have := entO_next hr e
        rw [e] at h
        exact itemsGo_good s f p _ es' ds ds' nx this.2.1 this.2.2 hl h
    split at h
    · rename_i hc
      have hr : blanksN s k + 9 ≤ s.size := isAt_room hc
      cases e : listO s (blanksN s k + 9) es ds with
      | none => rw [e] at h; cases h
      | some q =>
        obtain ⟨x, p⟩ := q
        have h1 := listO_next hr e
        have h2 := listO_len hr hl e
        rw [e] at h
        exact itemsGo_good s f p es es' x ds' nx h1.2 he h2 h
    · cases h
theorem head_good {s : ByteArray} {a : Int} {h : Hd} {k : Nat} (hh : headO s a = some (h, k)) : entsOk h.ents = true ∧ h.defs.length ≤ 6 ∧ k ≤ s.size ∧ ∃ j, k = j + 1 ∧ isAtB s ⟨#[62]⟩ (j : Nat) = true := by
  unfold headO at hh
  split at hh
  · rename_i hd
    have hr := isAt_roomI hd
    have h9 : (⟨#[60, 33, 68, 79, 67, 84, 89, 80, 69]⟩ : ByteArray).size = 9 := rfl
    cases e : gapO s (a.toNat + 9) with
    | none => rw [e] at hh; cases hh
    | some b =>
      have hg := gapO_next e
      have hb := blanksN_le s (a.toNat + 9)
      rw [e] at hh
      simp only [Option.bind_some] at hh
      cases e2 : nameO s b with
      | none => rw [e2] at hh; cases hh
      | some p =>
        obtain ⟨n, k1⟩ := p
        have h2 := nameO_next (by omega) e2
        rw [e2] at hh
        simp only [Option.bind_some] at hh
        have hb2 := blanksN_le s k1
        cases e3 : restO s (blanksN s k1) with
        | none => rw [e3] at hh; cases hh
        | some q =>
          obtain ⟨es, ds, k2⟩ := q
          rw [e3] at hh
          simp only [Option.bind_some] at hh
          have hg3 : entsOk es = true ∧ ds.length ≤ 6 := by
            unfold restO at e3
            split at e3
            · rename_i hc
              have hr1 : blanksN s k1 + 1 ≤ s.size := isAt_room hc
              cases e4 : itemsN s (blanksN s k1 + 1) [] [] with
              | none => rw [e4] at e3; cases e3
              | some q =>
                obtain ⟨es1, ds1, k3⟩ := q
                rw [e4] at e3
                simp only [Option.map_some] at e3
                injection e3 with e3; injection e3 with e5 e6; injection e6 with e6 _
                have := itemsGo_good s _ _ _ _ _ _ _ hr1 ents_nil (by decide) e4
                rw [← e5, ← e6]
                exact ⟨this.1, this.2.1⟩
            · injection e3 with e3; injection e3 with e5 e6; injection e6 with e6 _
              rw [← e5, ← e6]
              exact ⟨ents_nil, Nat.zero_le _⟩
          split at hh
          · rename_i hc
            have hr2 : k2 + 1 ≤ s.size := isAt_room hc
            injection hh with hh
            injection hh with e7 e8
            subst e7
            exact ⟨hg3.1, hg3.2, by omega, k2, e8.symm, hc⟩
          · cases hh
  · cases hh
def hdM (o : Option (Hd × Nat)) : Hd := match o with | some q => q.1 | none => ⟨⟨#[]⟩, [], []⟩
def hdK (o : Option (Hd × Nat)) : Int := match o with | some q => (q.2 : Nat) | none => 0
theorem hdM_len {s : ByteArray} {a : Int} : (hdM (headO s a)).ents.length ≤ 4 ∧ (hdM (headO s a)).defs.length ≤ 6 := by
  cases e : headO s a with
  | none => exact ⟨Nat.zero_le _, Nat.zero_le _⟩
  | some q =>
    have := head_good (h := q.1) (k := q.2) e
    exact ⟨(small_ents this.1).1, this.2.1⟩
theorem hdOut_is {w w' : World} {o : Option (Hd × Nat)} {e : Ending} (h : HdOut w o e w') : ∃ (A D : Option Addr) (c d b : Nat), e = .returned (.tuple #[.agg #[.string (hdM o).name, .slice A (hdM o).ents.length c, .slice D (hdM o).defs.length d], .int .i64 (hdK o), .bool o.isSome]) ∧ w.heap.size ≤ b ∧
    w'.ownsRow b 57 2 (.slice A (hdM o).ents.length c) (hdM o).ents.length ((hdM o).ents.flatMap Dcl.cells) ∧ w'.ownsRow b 54 5 (.slice D (hdM o).defs.length d) (hdM o).defs.length ((hdM o).defs.flatMap Df.cells) ∧
    (∀ j, (Value.slice A (hdM o).ents.length c).ownBlock = some j → ¬ (Value.slice D (hdM o).defs.length d).ownBlock = some j) ∧ Below w.heap.size w w' := by
  obtain ⟨h0, vE, vD, k, b, he, hb, hE, hD, hne, hm, hB⟩ := h
  have h1 : h0 = hdM o ∧ k = hdK o := by
    cases o with
    | none => exact hm
    | some q => exact hm
  obtain ⟨h1, h2⟩ := h1
  rw [h1, h2] at he
  rw [h1] at hE hD
  obtain ⟨A, c, hvE, _⟩ := ents_row hE
  obtain ⟨D, d, hvD, _⟩ := defs_row hD
  subst hvE hvD
  exact ⟨A, D, c, d, b, he, hb, hE, hD, hne, hB⟩
end Go.Proofs.YtmfkdgdamepbcaaGreatDoor
end
