/- Joined: EtI, NoteI. -/
import Derived.Test.YtmfkdgdamepbcaaGreatDoorHdC
import Derived.Test.YtmfkdgdamepbcaaGreatDoorHdA
import Derived.Test.YtmfkdgdamepbcaaGreatDoorEntsI
import Derived.Test.YtmfkdgdamepbcaaGreatDoorScB
import Derived.Test.YtmfkdgdamepbcaaGreatDoorShelfB
import Derived.Test.YtmfkdgdamepbcaaGreatDoorTextOk
import Derived.Test.YtmfkdgdamepbcaaGreatDoorOkA
section
/- The program's heads: plain, entity. -/
namespace Go.Proofs.YtmfkdgdamepbcaaGreatDoor
open Go.RowKit Go.Lib
set_option linter.unusedVariables false
set_option linter.unusedSimpArgs false
set_option maxHeartbeats 0
set_option maxRecDepth 100000
/-- A scan and a head, behind the worlds of a call. -/
structure SH (n0 base r g : Nat) (s name : ByteArray) (w0 w : World) (a : Nat) (q : Bool) (vE vD : Value) (es : List Dcl) (ds : List Df) : Prop where
  hb : Below n0 w0 w
  sc : Sc w r s a q
  hd : HdAt w base g name vE vD es ds
  hn : n0 ≤ w.heap.size
  hr : n0 ≤ r
  hg : n0 ≤ g
  hbs : n0 ≤ base
  ne : r ≠ g
  rb : r < base
  env : Env w0
  hn0 : n0 = w0.heap.size
section
variable {n0 base r g : Nat} {s name n x : ByteArray} {w0 w w1 w' : World} {a b : Nat} {q p : Bool} {vE vD v' : Value} {es : List Dcl} {ds : List Df} {d : Df}
theorem SH.here (h : SH n0 base r g s name w0 w a q vE vD es ds) : Env w := h.env.below (by have := h.hb; rw [h.hn0] at this; exact this)
theorem SH.bs (h : SH n0 base r g s name w0 w a q vE vD es ds) : Bs w0 r w := ⟨h.env, (by have := h.hb; rw [h.hn0] at this; exact this), by rw [← h.hn0]; exact h.hr⟩
theorem SH.step (h : SH n0 base r g s name w0 w a q vE vD es ds) (hr : Sc w1 r s b p) (hm : Moved r w w1) : SH n0 base r g s name w0 w1 b p vE vD es ds :=
  ⟨h.hb.trans (hm.below h.hr h.hn), hr, h.hd.moved hm (fun e => h.ne e.symm) h.rb, Nat.le_trans h.hn hm.size, h.hr, h.hg, h.hbs, h.ne, h.rb, h.env, h.hn0⟩
theorem SH.below (h : SH n0 base r g s name w0 w a q vE vD es ds) (hb : Below w.heap.size w w1) : SH n0 base r g s name w0 w1 a q vE vD es ds :=
  h.step (h.sc.below hb) (Moved.of hb)
theorem SH.setQ (h : SH n0 base r g s name w0 w a q vE vD es ds) (b : Bool) : SH n0 base r g s name w0 (w.setCell ⟨r, 2, none⟩ (.bool b)) a b vE vD es ds :=
  h.step (h.sc.setQ b) ((Moved.refl _ _).set)
theorem SH.grow (h : SH n0 base r g s name w0 w a q vE vD es ds) (hg : Hg base g w w1) : Below n0 w0 w1 ∧ Sc w1 r s a q ∧ n0 ≤ w1.heap.size :=
  ⟨h.hb.trans (hg.below h.hbs h.hg h.hn), ⟨(hg.block r h.sc.lt h.rb h.ne).trans h.sc.heap, h.sc.le⟩, Nat.le_trans h.hn hg.size⟩
theorem SH.addE (h : SH n0 base r g s name w0 w a q vE vD es ds) (hown : w'.ownsRow base 57 2 v' (es.length + 1) (es.flatMap Dcl.cells ++ [.string n, .string x])) (hg : w.grownBy w' vE.ownBlock)
    (hat : v'.ownBlock = vE.ownBlock ∨ v'.ownBlock = some w.heap.size) : SH n0 base r g s name w0 (w'.setCell ⟨g, 1, none⟩ v') a q v' vD (es ++ [⟨n, x⟩]) ds := by
  obtain ⟨h1, h2, h3⟩ := h.grow (Hg.of hg (fun k hk => (h.hd.hE.lt k hk).1) 1 v')
  exact ⟨h1, h2, h.hd.addE hown hg hat, h3, h.hr, h.hg, h.hbs, h.ne, h.rb, h.env, h.hn0⟩
theorem SH.addD (h : SH n0 base r g s name w0 w a q vE vD es ds) (hown : w'.ownsRow base 54 5 v' (ds.length + 1) (ds.flatMap Df.cells ++ d.cells)) (hg : w.grownBy w' vD.ownBlock)
    (hat : v'.ownBlock = vD.ownBlock ∨ v'.ownBlock = some w.heap.size) : SH n0 base r g s name w0 (w'.setCell ⟨g, 2, none⟩ v') a q vE v' es (ds ++ [d]) := by
  obtain ⟨h1, h2, h3⟩ := h.grow (Hg.of hg (fun k hk => (h.hd.hD.lt k hk).1) 2 v')
  exact ⟨h1, h2, h.hd.addD hown hg hat, h3, h.hr, h.hg, h.hbs, h.ne, h.rb, h.env, h.hn0⟩
theorem SH.pE (h : SH n0 base r g s name w0 w a q vE vD es ds) (hg : w.grownBy w' vE.ownBlock) : w'.cell? ⟨g, 1, none⟩ = some vE ∧ w'.frozen? ⟨g, 1, none⟩ = false := by
  have hp : w'.heap[g]? = some (.cells #[.string name, vE, vD] 48 (0, 0)) := (hg.block g h.hd.glt (fun e => by have := (h.hd.hE.lt g e.symm).1; have := h.hd.lt; omega)).trans h.hd.heap
  have := cells3 hp
  exact ⟨this.2.1, this.2.2.2.2.1⟩
theorem SH.pD (h : SH n0 base r g s name w0 w a q vE vD es ds) (hg : w.grownBy w' vD.ownBlock) : w'.cell? ⟨g, 2, none⟩ = some vD ∧ w'.frozen? ⟨g, 2, none⟩ = false := by
  have hp : w'.heap[g]? = some (.cells #[.string name, vE, vD] 48 (0, 0)) := (hg.block g h.hd.glt (fun e => by have := (h.hd.hD.lt g e.symm).1; have := h.hd.lt; omega)).trans h.hd.heap
  have := cells3 hp
  exact ⟨this.2.2.1, this.2.2.2.2.2⟩
theorem SH.other {gd : Nat} (h : SH n0 base r g s name w0 w a q vE vD es ds) (hm : Moved gd w w1)
    (hr : gd ≠ r) (hg : gd ≠ g) (hE : ∀ k, vE.ownBlock = some k → k < gd) (hD : ∀ k, vD.ownBlock = some k → k < gd) (hn : n0 ≤ gd) : SH n0 base r g s name w0 w1 a q vE vD es ds :=
  ⟨h.hb.trans (hm.below hn h.hn), h.sc.other hm (fun e => hr e.symm), ⟨(hm.block g h.hd.glt (fun e => hg e.symm)).trans h.hd.heap, h.hd.lt, Nat.le_trans h.hd.le hm.size,
    hown_grown h.hd.hE (hmoved_by hm) (fun k hk e => by injection e with e; have := hE k hk; omega), hown_grown h.hd.hD (hmoved_by hm) (fun k hk e => by injection e with e; have := hD k hk; omega), h.hd.ne⟩,
    Nat.le_trans h.hn hm.size, h.hr, h.hg, h.hbs, h.ne, h.rb, h.env, h.hn0⟩
end
theorem scPlain_calls (s : ByteArray) (a g : Nat) (q : Bool) (W0 w : World) (hs : s.size ≤ 1048576) (h : Sc w g s a q) (B : Bs W0 g w) :
    Calls Tryz.prog 130 #[.pointer (some ⟨g, 0, none⟩)] w fun e w' => e = .returned (.string (nameF s a q).1) ∧ Sc w' g s (nameF s a q).2.1 ((nameF s a q).2.2 || !plainOk (nameF s a q).1) ∧ Moved g w w' := by
  have HN := Aside0.mk (scName_calls s a g q w (by omega) h B.here)
  have hsz : (nameF s a q).2.2 = false → (nameF s a q).1.size ≤ s.size := by
    intro hq
    cases q with
    | true => rw [nameF_bad] at hq; cases hq
    | false =>
      cases hn : nameO s a with
      | none => rw [nameF_none hn] at hq; cases hq
      | some p =>
        obtain ⟨n, k⟩ := p
        rw [nameF_some hn]
        have := nameO_next h.le hn
        show n.size ≤ s.size
        omega
  obtain ⟨⟨n, a1, q1⟩, hp⟩ : ∃ p, p = nameF s a q := ⟨_, rfl⟩
  rw [← hp] at HN hsz ⊢
  dsimp only at HN hsz ⊢
  have HP := Aside0.mk (fun W (hm : Moved g w W) (hn : n.size ≤ s.size) => implPlainOk_calls n W (by omega) (B.moved hm).here)
  clear hp h B
  cases q1 with
  | true =>
    go_enter Tryz.func130, Tryz.ntmps130
    go_wp2_with fail
    refine (HN.out).mono ?_
    rintro e w1 ⟨rfl, h1, hm1⟩
    obtain ⟨c0, c1, c2, f1, f2⟩ := h1.cells
    have hn := Aside0.mk (h1.setQ true)
    have hm := Aside0.mk (hm1.set (o := 2) (u := .bool true))
    clear h1 hm1
    go_wp2
    go_ret
    exact ⟨rfl, hn.out, hm.out⟩
  | false =>
    have hnn := hsz rfl
    obtain ⟨pn, hpn⟩ : ∃ b, b = plainOk n := ⟨_, rfl⟩
    rw [← hpn] at HP ⊢
    clear hpn
    go_enter Tryz.func130, Tryz.ntmps130
    go_wp2_with fail
    refine (HN.out).mono ?_
    rintro e w1 ⟨rfl, h1, hm1⟩
    obtain ⟨c0, c1, c2, f1, f2⟩ := h1.cells
    go_wp2_with fail
    refine (HP.out _ hm1 hnn).mono ?_
    rintro e w2 ⟨rfl, hb2⟩
    replace h1 := h1.below hb2
    replace hm1 := hm1.then hb2
    clear c0 c1 c2 f1 f2 hb2
    obtain ⟨c0, c1, c2, f1, f2⟩ := h1.cells
    have hn := Aside0.mk (h1.setQ (!pn))
    have hm := Aside0.mk (hm1.set (o := 2) (u := .bool (!pn)))
    clear h1 hm1
    go_wp2
    go_ret
    exact ⟨rfl, hn.out, hm.out⟩
theorem nameF_size {s : ByteArray} {k : Nat} {q : Bool} (hk : k ≤ s.size) : (nameF s k q).1.size ≤ s.size := by
  cases q with
  | true => exact Nat.zero_le _
  | false =>
    cases hn : nameO s k with
    | none => rw [nameF_none hn]; exact Nat.zero_le _
    | some p =>
      obtain ⟨n, k⟩ := p
      rw [nameF_some hn]
      have := nameO_next hk hn
      show n.size ≤ s.size
      omega
/-- And a box. -/
structure SB (n0 base r g gd : Nat) (s name : ByteArray) (w0 w : World) (a : Nat) (q : Bool) (vE vD : Value) (es : List Dcl) (ds : List Df) (bx : Obj) : Prop where
  sh : SH n0 base r g s name w0 w a q vE vD es ds
  box : w.heap[gd]? = some bx
  nr : gd ≠ r
  ng : gd ≠ g
  nE : ∀ k, vE.ownBlock = some k → k < gd
  nD : ∀ k, vD.ownBlock = some k → k < gd
  ge : n0 ≤ gd
section
variable {n0 base r g gd : Nat} {s name : ByteArray} {w0 w w1 w' : World} {a b : Nat} {q p : Bool} {vE vD v' : Value} {es : List Dcl} {ds : List Df} {bx bx' : Obj}
theorem SB.lt (h : SB n0 base r g gd s name w0 w a q vE vD es ds bx) : gd < w.heap.size := (Array.getElem?_eq_some_iff.1 h.box).1
theorem SB.step (h : SB n0 base r g gd s name w0 w a q vE vD es ds bx) (hr : Sc w1 r s b p) (hm : Moved r w w1) : SB n0 base r g gd s name w0 w1 b p vE vD es ds bx :=
  ⟨h.sh.step hr hm, (hm.block gd h.lt h.nr).trans h.box, h.nr, h.ng, h.nE, h.nD, h.ge⟩
theorem SB.below (h : SB n0 base r g gd s name w0 w a q vE vD es ds bx) (hb : Below w.heap.size w w1) : SB n0 base r g gd s name w0 w1 a q vE vD es ds bx :=
  h.step (h.sh.sc.below hb) (Moved.of hb)
theorem SB.setQ (h : SB n0 base r g gd s name w0 w a q vE vD es ds bx) (b : Bool) : SB n0 base r g gd s name w0 (w.setCell ⟨r, 2, none⟩ (.bool b)) a b vE vD es ds bx :=
  h.step (h.sh.sc.setQ b) ((Moved.refl _ _).set)
theorem SB.new (h : SH n0 base r g s name w0 w a q vE vD es ds) (o : Obj) : SB n0 base r g w.heap.size s name w0 (w.alloc o) a q vE vD es ds o :=
  ⟨h.below (below_alloc (Below.refl _ _) _), Array.getElem?_push_size, (by have := h.sc.lt; omega), (by have := h.hd.glt; omega), (fun k hk => (h.hd.hE.lt k hk).2), (fun k hk => (h.hd.hD.lt k hk).2), h.hn⟩
theorem SB.put (h : SB n0 base r g gd s name w0 w a q vE vD es ds bx) {o : Nat} {u : Value} (hb : (w.setCell ⟨gd, o, none⟩ u).heap[gd]? = some bx') : SB n0 base r g gd s name w0 (w.setCell ⟨gd, o, none⟩ u) a q vE vD es ds bx' :=
  ⟨h.sh.other ((Moved.refl gd w).set) h.nr h.ng h.nE h.nD h.ge, hb, h.nr, h.ng, h.nE, h.nD, h.ge⟩
end
def EnI (n0 base r g : Nat) (s name : ByteArray) (w0 : World) (vD : Value) (es : List Dcl) (ds : List Df) (o : Option (Dcl × Nat)) (w' : World) : Prop :=
  ∃ (a : Nat) (q : Bool) (vE : Value) (es' : List Dcl), SH n0 base r g s name w0 w' a q vE vD es' ds ∧ ((q = false ∧ ∃ d, o = some (d, a) ∧ es' = es ++ [d]) ∨ (q = true ∧ o = none))
theorem expF_x (v : ByteArray) (es : List Dcl) (q : Bool) : (expF v es q).1 = expX (expandV v es) := by
  unfold expF expO expX
  cases expandV v es <;> rfl
theorem scEntity_calls (n0 base r g : Nat) (s name : ByteArray) (k : Nat) (vE vD : Value) (es : List Dcl) (ds : List Df) (w0 w : World) (hs : s.size ≤ 1048576) (hes : entsOk es = true) (h : SH n0 base r g s name w0 w k false vE vD es ds) :
    Calls Tryz.prog 101 #[.pointer (some ⟨r, 0, none⟩), .pointer (some ⟨g, 0, none⟩)] w fun e w' => e = .returned (.tuple #[]) ∧ EnI n0 base r g s name w0 vD es ds (entO s k es) w' := by
  have hk : k ≤ s.size := h.sc.le
  obtain ⟨A, c, hvE, hc, _⟩ := h.hd.ents
  have hel := (ents_le hes).1
  obtain ⟨i, hi, hz0, hz1, hz2⟩ := info_parts Tryz.info_Ent
  have hnz : (.agg #[.string ⟨#[]⟩, .string ⟨#[]⟩] : Value).cells.size = 2 := rfl
  have HES := Aside0.mk hes
  have Hz2 := Aside0.mk hz2
  clear hz2
  subst hvE
  -- what is reckoned
  obtain ⟨a1, ha1⟩ : ∃ x, x = blanksN s k := ⟨_, rfl⟩
  obtain ⟨q1, hq1⟩ : ∃ x, x = (false || !decide (k < a1)) := ⟨_, rfl⟩
  have HG1 := Aside0.mk (scGap_calls s k r false w (by omega) h.sc)
  rw [← ha1, ← hq1] at HG1
  obtain ⟨⟨n, a2, q2⟩, hp2⟩ : ∃ p, p = nameF s a1 q1 := ⟨_, rfl⟩
  have HPl := Aside0.mk (fun W (h : Sc W r s a1 q1) (B : Bs w0 r W) => scPlain_calls s a1 r q1 w0 W hs h B)
  rw [← hp2] at HPl
  dsimp only at HPl
  obtain ⟨q3, hq3⟩ : ∃ x, x = (q2 || !plainOk n) := ⟨_, rfl⟩
  rw [← hq3] at HPl
  obtain ⟨a4, ha4⟩ : ∃ x, x = blanksN s a2 := ⟨_, rfl⟩
  obtain ⟨q4, hq4⟩ : ∃ x, x = (q3 || !decide (a2 < a4)) := ⟨_, rfl⟩
  have HG2 := Aside0.mk (fun W (h : Sc W r s a2 q3) => scGap_calls s a2 r q3 W (by omega) h)
  rw [← ha4, ← hq4] at HG2
  obtain ⟨⟨v, a5, q5⟩, hp5⟩ : ∃ p, p = quotF s a4 q4 := ⟨_, rfl⟩
  have HQ := Aside0.mk (fun W (h : Sc W r s a4 q4) (B : Bs w0 r W) => scQuoted_calls s a4 r q4 w0 W (by omega) h B)
  have hvz := fun h => quot_size (s := s) (a := a4) (q := q4) h
  rw [← hp5] at HQ hvz
  dsimp only at HQ hvz
  obtain ⟨⟨x, q6⟩, hp6⟩ : ∃ p, p = expF v es q5 := ⟨_, rfl⟩
  have HX := Aside0.mk (fun W A c (h : Sc W r s a5 q5) (hr : Row Kd.dcl W (fun k => base ≤ k) A es) (hv : v.size ≤ 1000000000) (hE : Env W) => scExpanded_calls s v a5 r q5 A c es W h hr hv (ents_le hes).2 hE)
  have hxz := expX_size v es
  rw [← expF_x v es q5] at hxz
  rw [← hp6] at HX hxz
  dsimp only at HX hxz
  obtain ⟨a7, ha7⟩ : ∃ x, x = blanksN s a5 := ⟨_, rfl⟩
  have HB7 := Aside0.mk (fun W (h : Sc W r s a5 q6) => scBlanks_calls s a5 r q6 W (by omega) h)
  rw [← ha7] at HB7
  obtain ⟨⟨a8, q8⟩, hp8⟩ : ∃ p, p = mustF s ⟨#[62]⟩ a7 q6 := ⟨_, rfl⟩
  have HM8 := Aside0.mk (fun W (h : Sc W r s a7 q6) => scMust_calls s ⟨#[62]⟩ a7 r q6 W (by omega) h)
  rw [← hp8] at HM8
  dsimp only at HM8
  have hlaw := entity_i (s := s) (n := n) (v := v) (x := x) (k := k) (a2 := a2) (a5 := a5) (a8 := a8) (es := es) (q1 := q1) (q2 := q2) (q3 := q3) (q4 := q4) (q5 := q5) (q6 := q6) (q8 := q8) (q9 := (q8 || !entsOk (es ++ [⟨n, x⟩]))) (by rw [hq1, ha1]) (by rw [← ha1]; exact hp2) hq3 (by rw [hq4, ha4]) (by rw [← ha4]; exact hp5) hp6 (by rw [← ha7]; exact hp8) rfl
  obtain ⟨o, ho⟩ : ∃ o, o = entO s k es := ⟨_, rfl⟩
  rw [← ho] at hlaw ⊢
  replace hlaw := Aside0.mk hlaw
  have hnn : n.size ≤ 1048576 := by
    have h1 := nameF_size (s := s) (k := a1) (q := q1) (by rw [ha1]; exact (blanksN_le s k).2 hk)
    rw [← hp2] at h1
    exact Nat.le_trans h1 hs
  clear ho hp2 hq1 ha1 hq3 ha4 hq4 hp5 hp6 ha7 hp8 hes
  go_enter Tryz.func101, Tryz.ntmps101
  go_wp2_with fail
  refine (HG1.out).mono ?_
  rintro e w1 ⟨rfl, r1, m1⟩
  have hB := h.step r1 m1
  clear r1 m1 h HG1
  go_wp2_with fail
  refine (HPl.out _ hB.sc hB.bs).mono ?_
  rintro e w2 ⟨rfl, r2, m2⟩
  replace hB := hB.step r2 m2
  clear r2 m2
  obtain ⟨gd, hgd⟩ : ∃ x, x = w2.heap.size := ⟨_, rfl⟩
  replace hB := SB.new hB (.cells #[.string n, .string ⟨#[]⟩] 57 (0, 0))
  obtain ⟨W2, hW2⟩ : ∃ W, W = w2.alloc (.cells #[.string n, .string ⟨#[]⟩] 57 (0, 0)) := ⟨_, rfl⟩
  rw [← hW2] at hB
  have HW2 := Aside0.mk hW2
  clear hW2
  go_upto_region 2 with fail
  rw [← HW2.out]
  rw [← hgd] at hB ⊢
  clear hgd
  go_wp2_with fail
  refine (HG2.out _ hB.sh.sc).mono ?_
  rintro e w4 ⟨rfl, r4, m4⟩
  replace hB := hB.step r4 m4
  clear r4 m4
  have hvv : v.size ≤ 1000000000 := by have := hvz hB.sh.sc.le; omega
  go_upto_region 3 with fail
  go_cut [] (fun wx => SB n0 base r g gd s name w0 wx a5 q6 (.slice A es.length c) vD es ds (.cells #[.string n, .string x] 57 (0, 0)))
  case first =>
    have HST := Aside0.mk (fun W (hb : Below w4.heap.size w4 W) => hB.below hb)
    obtain ⟨_, d1, _⟩ := hB.sh.hd.cells
    clear hB
    go_region_with (first
      | (go_at_call 116; refine (HQ.out _ (HST.out _ (below_drew (Below.refl _ _))).sh.sc (HST.out _ (below_drew (Below.refl _ _))).sh.bs).mono ?_; rintro e w6 ⟨rfl, r6, m6⟩
         have h6 := (HST.out _ (below_drew (Below.refl _ _))).step r6 m6
         have d1' := h6.sh.hd.cells.2.1)
      | (go_at_call 114; refine (HX.out _ A c h6.sh.sc (by obtain ⟨A', c', hv', _, hr'⟩ := h6.sh.hd.ents; cases hv'; exact hr') hvv h6.sh.here).mono ?_; rintro e w7 ⟨rfl, r7, m7⟩
         have h7 := h6.step r7 m7
         obtain ⟨b0, b1, fb0, fb1⟩ := cells2 h7.box))
    all_goals
      have h8 := Aside0.mk (h7.put (o := 1) (u := .string x) (bx' := .cells #[.string n, .string x] 57 (0, 0)) (heap_setCell_same _ gd 1 _ _ _ h7.box))
      go_wp2_with fail
      go_meet
      exact h8.out
  case rest =>
  clear hB
  replace hB := hcut
  clear hcut
  go_wp2_with fail
  refine (HB7.out _ hB.sh.sc).mono ?_
  rintro e w7 ⟨rfl, r7, m7⟩
  replace hB := hB.step r7 m7
  clear r7 m7
  go_wp2_with fail
  refine (HM8.out _ hB.sh.sc).mono ?_
  rintro e w8 ⟨rfl, r8, m8⟩
  replace hB := hB.step r8 m8
  clear r8 m8
  obtain ⟨d0, d1, g0, g1⟩ := cells2 hB.box
  obtain ⟨e0, e1, e2, k0, k1, k2⟩ := hB.sh.hd.cells
  have hBz := hB.sh.hd.below (below_alloc (Below.refl w8.heap.size w8) (.cells #[.string n, .string x] 57))
  have v1 := hBz.cells.2.1
  have hBw : Below w8.heap.size w8 ((w8.alloc (.cells #[.string n, .string x] 57)).drew) := below_drew (below_alloc (Below.refl _ _) _)
  have hnews := Aside0.mk (show ∀ j u, ([.string n, .string x] : List Value)[j]? = some u → ((w8.alloc (.cells #[.string n, .string x] 57)).drew).cell? ((⟨w8.heap.size, 0, none⟩ : Addr).add j) = some u from pair_news w8 (.string n) (.string x) 57)
  have hown := Aside0.mk (own_below hB.sh.hd.hE hBw)
  have h11 := Aside0.mk (hB.sh.below hBw)
  have hlw := Aside0.mk (Nat.le_trans hB.sh.hd.le hBw.size)
  have h1c := Aside0.mk (pair_one n x)
  have hlm := Aside0.mk (show es.length + 1 ≤ maxLen ∧ (es.length + 1) * 32 ≤ 140737488355328 from ⟨by unfold maxLen; omega, by omega⟩)
  clear hBz hBw hB
  go_upto_region 6 with fail
  go_region_law (first
    | (refine step_app_in rfl (.tmp 29) (.tmp 31) 24 rfl base 57 i (.agg #[.string ⟨#[]⟩, .string ⟨#[]⟩]) 2 32 Tryz.underlying24 hi hz0 hz1 Hz2.out hnz (by decide) (.slice A es.length c) es.length (es.flatMap Dcl.cells) rfl hown.out ⟨w8.heap.size, 0, none⟩ 1 1 [.string n, .string x] rfl rfl hnews.out h1c.out hlm.out.1 hlm.out.2 hlw.out ?_
       intro v' w25 hown3 hgrow3 hat3
       obtain ⟨p1, p2⟩ := h11.out.pE hgrow3
       have h12 := h11.out.addE hown3 hgrow3 hat3
       obtain ⟨Av, cv, hv', _⟩ := h12.hd.ents
       rw [List.length_append, List.length_singleton] at hv'
       subst hv'
       replace h12 := Aside0.mk h12
       clear hown3 hgrow3 hat3))
  all_goals
    obtain ⟨X, hX⟩ : ∃ X, X = w25.setCell ⟨g, 1, none⟩ (.slice Av (es.length + 1) cv) := ⟨_, rfl⟩
    replace h12 := h12.out
    rw [← hX] at h12 ⊢
    clear hX p1 p2 d0 d1 g0 g1 e0 e1 e2 k0 k1 k2 v1
    obtain ⟨_, e1, _⟩ := h12.hd.cells
    obtain ⟨c0, c1, c2, f1, f2⟩ := h12.sc.cells
    cases q8 with
    | true =>
      have hfin := Aside0.mk (show EnI n0 base r g s name w0 vD es ds o (X.setCell ⟨r, 2, none⟩ (.bool true)) from
        ⟨a8, true, _, _, h12.setQ true, by
          rcases hlaw.out with ⟨e, _⟩ | ⟨_, e⟩
          · cases e
          · exact .inr ⟨rfl, e⟩⟩)
      clear h12
      go_wp2
      go_end0
      exact ⟨rfl, hfin.out⟩
    | false =>
      obtain ⟨Ae, ce, hve, _, hre⟩ := h12.hd.ents
      rw [List.length_append, List.length_singleton] at hve
      injection hve with e3 _ e4
      subst e3 e4
      have hln : (es ++ [(⟨n, x⟩ : Dcl)]).length = es.length + 1 := by rw [List.length_append, List.length_singleton]
      have HEO := Aside0.mk (implEntsOk_calls Av cv (es ++ [⟨n, x⟩]) X hre (ents_snoc HES.out hnn hxz).2 h12.here)
      rw [hln] at HEO
      obtain ⟨eo, heo⟩ : ∃ b, b = entsOk (es ++ [⟨n, x⟩]) := ⟨_, rfl⟩
      rw [← heo] at HEO hlaw
      clear hre heo hln
      go_wp2_with fail
      refine (HEO.out).mono ?_
      rintro e w14 ⟨rfl, hb14⟩
      replace h12 := h12.below hb14
      clear hb14 e1 c0 c1 c2 f1 f2 HEO
      obtain ⟨c0, c1, c2, f1, f2⟩ := h12.sc.cells
      have hfin := Aside0.mk (show EnI n0 base r g s name w0 vD es ds o (w14.setCell ⟨r, 2, none⟩ (.bool (!eo))) from
        ⟨a8, !eo, _, _, h12.setQ (!eo), by
          rcases hlaw.out with ⟨e, e2⟩ | ⟨e, e2⟩
          · exact .inl ⟨e, _, e2, rfl⟩
          · exact .inr ⟨e, e2⟩⟩)
      clear h12
      go_wp2
      go_end0
      exact ⟨rfl, hfin.out⟩
end Go.Proofs.YtmfkdgdamepbcaaGreatDoor
end
section
/- noteOk of the program; headNote. -/
namespace Go.Proofs.YtmfkdgdamepbcaaGreatDoor
open Go.RowKit Go.Lib
set_option linter.unusedVariables false
set_option linter.unusedSimpArgs false
set_option maxHeartbeats 4000000
set_option maxRecDepth 100000
theorem headNoteOk_calls (s : ByteArray) (w : World) (hs : s.size ≤ 1000000000) (hE : Env w) :
    Calls Tryz.prog 132 #[.string s] w fun e w' => e = .returned (.bool (noteOk s)) ∧ Below w.heap.size w w' := by
  have hv := Aside0.mk (show noteOk s = (textOk s && !hasB s [45, 45] && !hasSuffix s.data.toList [45] && !hasB s [13]) from rfl)
  have HE := Aside0.mk hE
  clear hE
  obtain ⟨m, hm⟩ := HE.out.len
  have hm := Aside0.mk hm
  go_enter Tryz.func132, Tryz.ntmps132
  go_wp2_with fail
  refine (implTextOk_calls s w (by omega) HE.out).mono ?_
  rintro e w1 ⟨rfl, hb1⟩
  cases ht : textOk s
  case false =>
    have hfin := Aside0.mk (show noteOk s = false by rw [hv.out, ht]; rfl)
    clear ht
    go_wp2
    go_ret
    exact ⟨by rw [hfin.out]; rfl, hb1⟩
  have Ht := Aside0.mk ht
  clear ht
  go_wp2_with fail
  refine (Tryz.strings_Contains s ⟨#[45, 45]⟩ m w1 (by omega) ((hb1.cell (p := ⟨2, 0, none⟩) (World.block_lt_of_cell? w _ hm.out)).trans hm.out)).mono ?_
  rintro e w2 ⟨rfl, rfl⟩
  rw [show contains s.data.toList (⟨#[45, 45]⟩ : ByteArray).data.toList = hasB s [45, 45] from rfl]
  cases hc : hasB s [45, 45]
  case true =>
    have hfin := Aside0.mk (show noteOk s = false by rw [hv.out, hc]; simp)
    clear hc
    go_wp2
    go_ret
    exact ⟨by rw [hfin.out]; rfl, hb1⟩
  have Hc := Aside0.mk hc
  clear hc
  go_wp2_with fail
  refine (Tryz.strings_HasSuffix s ⟨#[45]⟩ _ (by omega)).mono ?_
  rintro e w2 ⟨rfl, rfl⟩
  rw [show hasSuffix s.data.toList (⟨#[45]⟩ : ByteArray).data.toList = hasSuffix s.data.toList [45] from rfl]
  cases hf : hasSuffix s.data.toList [45]
  case true =>
    have hfin := Aside0.mk (show noteOk s = false by rw [hv.out, hf]; simp)
    clear hf
    go_wp2
    go_ret
    exact ⟨by rw [hfin.out]; rfl, hb1⟩
  have Hf := Aside0.mk hf
  clear hf
  go_wp2_with fail
  refine (Tryz.strings_Contains s ⟨#[13]⟩ m _ (by omega) ((hb1.cell (p := ⟨2, 0, none⟩) (World.block_lt_of_cell? w _ hm.out)).trans hm.out)).mono ?_
  rintro e w2 ⟨rfl, rfl⟩
  rw [show contains s.data.toList (⟨#[13]⟩ : ByteArray).data.toList = hasB s [13] from rfl]
  cases hg : hasB s [13]
  case true =>
    have hfin := Aside0.mk (show noteOk s = false by rw [hv.out, hg]; simp)
    clear hg
    go_wp2
    go_ret
    exact ⟨by rw [hfin.out]; rfl, hb1⟩
  have Hg := Aside0.mk hg
  clear hg
  have hfin := Aside0.mk (show noteOk s = true by rw [hv.out, Ht.out, Hc.out, Hf.out, Hg.out]; rfl)
  go_wp2
  go_ret
  exact ⟨by rw [hfin.out]; rfl, hb1⟩
theorem mark_text {s : ByteArray} {a : Int} {l : List Dcl} {q : Mk × Nat} (h : markO s a l = some q) : textOk q.1.text = true := by
  unfold markO at h
  split at h
  · cases e : mkO s a.toNat l with
    | none => rw [e] at h; cases h
    | some p =>
      rw [e] at h
      simp only [Option.bind_some] at h
      split at h
      · rename_i ht
        injection h with h
        rw [← h]; exact ht
      · cases h
  · cases h
theorem zero_boxG {W w24 : World} {o : Obj} (WX : World) (h : Below W.heap.size W w24) (hW : W.heap = WX.heap.push o) : w24.heap[WX.heap.size]? = some o := by
  rw [h.block _ (by rw [hW, Array.size_push]; omega), hW]
  exact Array.getElem?_push_size
set_option maxHeartbeats 0 in
theorem scHeadNote_calls (s : ByteArray) (a g : Nat) (W0 w : World) (hs : s.size ≤ 1048576) (h : Sc w g s a false) (B : Bs W0 g w) :
    Calls Tryz.prog 103 #[.pointer (some ⟨g, 0, none⟩)] w fun e w' => e = .returned (.tuple #[]) ∧ ∃ (b : Nat) (q : Bool), Sc w' g s b q ∧ Moved g w w' ∧ ((q = false ∧ noteM (markO s (a : Nat) []) = some b) ∨ (q = true ∧ noteM (markO s (a : Nat) []) = none)) := by
  have ha := h.le
  have hnl : ∀ b, noteM (markO s (a : Nat) []) = some b → b ≤ s.size := by
    intro b e
    rw [note_mark ha] at e
    split at e
    · rename_i hi
      exact (hnoteO_next (isAt_room hi) e).2
    · cases e
  obtain ⟨R, hR⟩ : ∃ R, R = markO s (a : Nat) [] := ⟨_, rfl⟩
  rw [← hR] at hnl ⊢
  have HM := Aside0.mk (fun W (hE : Env W) => show Calls Tryz.prog 9 #[.string s, .int .i64 (a : Nat), .slice none 0 0] W (MaOut W R) from by
    rw [hR]
    exact implMarkAt_calls s (a : Nat) none 0 [] W (Row.nil (ok := fun _ => True) _ _ _) (by omega) (by omega) (by omega) (fun d hd => by cases hd) hE)
  obtain ⟨m, hm⟩ : ∃ m, m = maM R := ⟨_, rfl⟩
  have HV := Aside0.mk (fun rv => show maV R rv = .tuple #[mkV m rv, .int .i64 (maK R), .bool R.isSome] by rw [hm]; rfl)
  obtain ⟨k0, hk0⟩ : ∃ k0, k0 = maK R := ⟨_, rfl⟩
  obtain ⟨q0, hq0⟩ : ∃ q0, q0 = R.isSome := ⟨_, rfl⟩
  rw [← hk0, ← hq0] at HV
  have htz : m.text.size ≤ 1000000000 := by
    rw [hm]
    cases e : R with
    | none => exact Nat.zero_le _
    | some q => have := text_size (mark_text (hR.symm.trans e)); show q.1.text.size ≤ _; omega
  have hcase : (q0 = false ∧ noteM R = none) ∨ (q0 = true ∧ ∃ k : Nat, k0 = (k : Nat) ∧ noteM R = if m.kind = 4 ∧ noteOk m.text = true then some k else none) := by
    rw [hm, hk0, hq0]
    cases R with
    | none => exact .inl ⟨rfl, rfl⟩
    | some q => exact .inr ⟨rfl, q.2, rfl, rfl⟩
  obtain ⟨N, hN⟩ : ∃ N, N = noteM R := ⟨_, rfl⟩
  rw [← hN] at hcase hnl ⊢
  replace hnl := Aside0.mk hnl
  clear hR hm hk0 hq0 hN
  have HKS := Aside0.mk (fun W (hb : Below w.heap.size w W) => show Below w.heap.size w W ∧ W.cell? ⟨g, 0, none⟩ = some (.string s) ∧ W.cell? ⟨g, 1, none⟩ = some (.int .i64 (a : Nat)) from ⟨hb, (h.below hb).cells.1, (h.below hb).cells.2.1⟩)
  have HSC := Aside0.mk (fun W (hb : Below w.heap.size w W) => h.below hb)
  have HE := Aside0.mk (fun W (hb : Below w.heap.size w W) => B.here.below hb)
  have hgl := h.lt
  clear h B
  go_enter Tryz.func103, Tryz.ntmps103
  obtain ⟨_, c0, c1⟩ := HKS.out _ (Below.refl _ _)
  go_upto_region 0 with fail
  go_cut [2, 3, 4] (fun p2 p3 p4 wx => ∃ (gm : Nat) (rv : Value), p2 = .pointer (some ⟨gm, 0, none⟩) ∧ p3 = .int .i64 k0 ∧ p4 = .bool q0 ∧ gm ≠ g ∧ Below w.heap.size w wx ∧ wx.heap[gm]? = some (.cells #[.int .i64 m.kind, .string m.name, rv, .bool m.empty, .string m.text] 29 (0, 0)))
  case first =>
    go_region_held3 (fun w' => Below w.heap.size w w' ∧ w'.cell? ⟨g, 0, none⟩ = some (.string s) ∧ w'.cell? ⟨g, 1, none⟩ = some (.int .i64 (a : Nat)))
      (refine HKS.out _ ?_ <;> (first | assumption | exact below_drew (Below.refl _ _) | exact below_drew (below_alloc (Below.refl _ _) _) | exact below_alloc (below_drew (Below.refl _ _)) _ | exact below_alloc hb24 _ | exact below_moved hb24 (((((Moved.refl _ _).set).set).set).set).set (Nat.le_refl _)))
      (first
        | (go_at_call 9; refine (HM.out _ (HE.out _ (by first | exact below_drew (Below.refl _ _) | exact below_drew (below_alloc (Below.refl _ _) _)))).mono ?_; rintro e w24 ⟨rv, rfl, ⟨bb, _, hO⟩, hb24'⟩
           obtain ⟨Ar, cr, rfl, _⟩ := Own.slice hO
           first
             | have hb24 := below_then (below_drew (Below.refl w.heap.size w)) hb24'
             | have hb24 := below_then (below_drew (below_alloc (Below.refl w.heap.size w) _)) hb24'
           first
             | (have hz24 := zero_boxG w hb24' rfl
                obtain ⟨y0, y1, y2, y3, y4, z0, z1, z2, z3, z4⟩ := cells5 hz24)
             | skip
           rw [HV.out]
           simp only [mkV])
        | fail)
    all_goals
      go_wp2_with fail
      go_meet
      first
        | exact ⟨w24.heap.size, .slice Ar (maM R).raws.length cr, rfl, rfl, rfl, (by have := hb24.size; omega), below_alloc hb24 _, Array.getElem?_push_size⟩
        | (obtain ⟨X24, hX24, hXg, hXm⟩ := out5 hz24 (.int .i64 m.kind) (.string m.name) (.slice Ar (maM R).raws.length cr) (.bool m.empty) (.string m.text)
           exact ⟨w.heap.size, .slice Ar (maM R).raws.length cr, rfl, rfl, rfl, (by omega), hX24 ▸ below_moved hb24 hXm (Nat.le_refl _), hX24 ▸ hXg⟩)
  case rest =>
  clear c0 c1
  obtain ⟨gm, rv, hp2, hp3, hp4, hne, hb, hbox⟩ := hcut
  subst hp2 hp3 hp4
  have hsc := HSC.out _ hb
  obtain ⟨c0, c1, c2, f1, f2⟩ := hsc.cells
  obtain ⟨b0, b1, b2, b3, b4, _⟩ := cells5 hbox
  rcases hcase with ⟨hq, hn⟩ | ⟨hq, k, hk, hn⟩
  · subst hq
    replace hn := Aside0.mk hn
    have hfin := Aside0.mk (show ∃ (b : Nat) (q : Bool), Sc (wc.setCell ⟨g, 2, none⟩ (.bool true)) g s b q ∧ Moved g w (wc.setCell ⟨g, 2, none⟩ (.bool true)) ∧ ((q = false ∧ N = some b) ∨ (q = true ∧ N = none)) from
      ⟨_, _, hsc.setQ true, (Moved.of hb).set, .inr ⟨rfl, hn.out⟩⟩)
    clear hsc
    go_wp2
    (try simp only [Exit.inBlock, Exit.then]); refine bodyPost_ret (results_none rfl _ _ _) rfl ?_
    exact ⟨rfl, hfin.out⟩
  · subst hq hk
    by_cases h4 : m.kind = 4
    · have h4' : (m.kind != 4) = false := by simp [h4]
      cases hno : noteOk m.text with
      | false =>
        rw [hno] at hn
        replace hn := Aside0.mk (hn.trans (if_neg (fun h => by cases h.2)))
        have HNo := Aside0.mk (headNoteOk_calls m.text wc htz (HE.out _ hb))
        rw [hno] at HNo
        clear hno
        go_wp2_with fail
        refine (HNo.out).mono ?_
        rintro e w9 ⟨rfl, hb9⟩
        replace hsc := hsc.below hb9
        replace hb := below_then hb hb9
        clear c0 c1 c2 f1 f2 b0 b1 b2 b3 b4
        obtain ⟨c0, c1, c2, f1, f2⟩ := hsc.cells
        have hfin := Aside0.mk (show ∃ (b : Nat) (q : Bool), Sc (w9.setCell ⟨g, 2, none⟩ (.bool true)) g s b q ∧ Moved g w (w9.setCell ⟨g, 2, none⟩ (.bool true)) ∧ ((q = false ∧ N = some b) ∨ (q = true ∧ N = none)) from
          ⟨_, _, hsc.setQ true, (Moved.of hb).set, .inr ⟨rfl, hn.out⟩⟩)
        clear hsc
        go_wp2
        (try simp only [Exit.inBlock, Exit.then]); refine bodyPost_ret (results_none rfl _ _ _) rfl ?_
        exact ⟨rfl, hfin.out⟩
      | true =>
        rw [hno] at hn
        replace hn := Aside0.mk (hn.trans (if_pos ⟨h4, rfl⟩))
        have HNo := Aside0.mk (headNoteOk_calls m.text wc htz (HE.out _ hb))
        rw [hno] at HNo
        clear hno
        go_wp2_with fail
        refine (HNo.out).mono ?_
        rintro e w9 ⟨rfl, hb9⟩
        replace hsc := hsc.below hb9
        replace hb := below_then hb hb9
        clear c0 c1 c2 f1 f2 b0 b1 b2 b3 b4
        obtain ⟨c0, c1, c2, f1, f2⟩ := hsc.cells
        have hfin := Aside0.mk (show ∃ (b : Nat) (q : Bool), Sc (w9.setCell ⟨g, 1, none⟩ (.int .i64 (k : Nat))) g s b q ∧ Moved g w (w9.setCell ⟨g, 1, none⟩ (.int .i64 (k : Nat))) ∧ ((q = false ∧ N = some b) ∨ (q = true ∧ N = none)) from
          ⟨_, _, hsc.setA k (hnl.out k hn.out), (Moved.of hb).set, .inl ⟨rfl, hn.out⟩⟩)
        clear hsc
        go_wp2
        go_end0
        exact ⟨rfl, hfin.out⟩
    · have h4' : (m.kind != 4) = true := by simp [h4]
      replace hn := Aside0.mk (hn.trans (if_neg (fun h => h4 h.1)))
      clear h4
      have hfin := Aside0.mk (show ∃ (b : Nat) (q : Bool), Sc (wc.setCell ⟨g, 2, none⟩ (.bool true)) g s b q ∧ Moved g w (wc.setCell ⟨g, 2, none⟩ (.bool true)) ∧ ((q = false ∧ N = some b) ∨ (q = true ∧ N = none)) from
        ⟨_, _, hsc.setQ true, (Moved.of hb).set, .inr ⟨rfl, hn.out⟩⟩)
      clear hsc
      go_wp2
      (try simp only [Exit.inBlock, Exit.then]); refine bodyPost_ret (results_none rfl _ _ _) rfl ?_
      exact ⟨rfl, hfin.out⟩
end Go.Proofs.YtmfkdgdamepbcaaGreatDoor
end
