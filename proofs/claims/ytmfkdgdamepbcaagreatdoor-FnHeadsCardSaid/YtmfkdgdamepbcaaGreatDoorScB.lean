/- Joined: OpP, Sc4, Sc5, MkI. -/
import Derived.Test.YtmfkdgdamepbcaaGreatDoorScA
import Derived.Test.YtmfkdgdamepbcaaGreatDoorRefB
import Derived.Deep.RegionWith
import Derived.RegionTactic
section
/- What opens goes through, in plain Lean. -/
namespace Go.Proofs.YtmfkdgdamepbcaaGreatDoor
open Go.RowKit Go.Lib
set_option linter.unusedVariables false
set_option linter.unusedSimpArgs false
set_option maxHeartbeats 4000000
set_option maxRecDepth 20000
theorem expF_bad (v : ByteArray) (l : List Dcl) : (expF v l true).2 = true := by unfold expF expO; split <;> rfl
theorem raw_is {s n v x : ByteArray} {l : List Dcl} {b a1 a2 a3 : Nat} {q1 q2 q3 q4 : Bool} (h1 : (n, a1, q1) = nameF s b false) (h2 : (a2, q2) = mustF s ⟨#[61]⟩ (blanksN s a1) q1)
    (h3 : (v, a3, q3) = quotF s (blanksN s a2) q2) (h4 : (x, q4) = expF (spacedB v) l q3) : (q4 = false ∧ rawO s b l = some (⟨n, x⟩, a3)) ∨ (q4 = true ∧ rawO s b l = none) := by
  have bad : q3 = true → q4 = true := by
    intro e
    subst e
    have := expF_bad (spacedB v) l
    rw [← h4] at this
    exact this
  have bad2 : q2 = true → q4 = true := by
    intro e
    subst e
    have := quot_bad s (blanksN s a2)
    rw [← h3] at this
    exact bad this
  cases e : nameO s b with
  | none =>
    rw [nameF_none e] at h1
    injection h1 with e1 e2; injection e2 with e2 e3; subst e1 e2 e3
    rw [mustF_bad] at h2
    injection h2 with _ e4
    exact .inr ⟨bad2 e4, by rw [rawO, e]; rfl⟩
  | some p =>
    obtain ⟨n', k⟩ := p
    rw [nameF_some e] at h1
    injection h1 with e1 e2; injection e2 with e2 e3; subst e1 e2 e3
    cases hi : isAtB s ⟨#[61]⟩ (blanksN s a1 : Nat) with
    | false =>
      rw [mustF_miss hi] at h2
      injection h2 with _ e4
      refine .inr ⟨bad2 e4, ?_⟩
      rw [rawO, e]
      simp only [Option.bind_some]
      rw [if_neg (by rw [hi]; simp)]
    | true =>
      rw [mustF_hit hi] at h2
      injection h2 with e4 e5
      subst e5
      have e4 : a2 = blanksN s a1 + 1 := e4
      have hR : rawO s b l = (quoO s (blanksN s a2)).bind fun q => (expandV (spacedB q.1) l).map fun x => (⟨n, x⟩, q.2) := by
        rw [rawO, e]
        simp only [Option.bind_some]
        rw [if_pos hi, e4]
      rcases quot_is s (blanksN s a2) with ⟨v', nx, hq, hF⟩ | ⟨hq, hF⟩
      · rw [hF] at h3
        injection h3 with e6 e7; injection e7 with e7 e8; subst e6 e7 e8
        rw [hR, hq]
        simp only [Option.bind_some]
        cases ex : expandV (spacedB v) l with
        | none =>
          rw [expF, ex] at h4
          injection h4 with _ e9
          exact .inr ⟨e9, rfl⟩
        | some y =>
          rw [expF, ex] at h4
          injection h4 with e9 e10
          subst e9
          exact .inl ⟨e10, rfl⟩
      · rw [← h3] at hF
        exact .inr ⟨bad hF, by rw [hR, hq]; rfl⟩
theorem occ_two (L : List UInt8) (x y : UInt8) (b : Nat) : occAt L [x, y] b = (occAt L [x] b && occAt L [y] (b + 1)) := by
  have e : L.drop (b + 1) = (L.drop b).drop 1 := by rw [List.drop_drop]
  unfold occAt
  rw [e]
  cases L.drop b with
  | nil => rfl
  | cons c r =>
    cases r with
    | nil => simp [List.isPrefixOf]
    | cons d r => simp [List.isPrefixOf]
theorem isAt_two (s : ByteArray) (x y : UInt8) (b : Nat) (hb : b ≤ s.size) : isAtB s ⟨#[x, y]⟩ (b : Nat) = (isAtB s ⟨#[x]⟩ (b : Nat) && isAtB s ⟨#[y]⟩ ((b + 1 : Nat) : Int)) := by
  have e1 : isAtB s ⟨#[x, y]⟩ (b : Nat) = (occAt s.data.toList [x] b && occAt s.data.toList [y] (b + 1)) := by rw [isAt_occ hb]; exact occ_two _ _ _ _
  cases h : isAtB s ⟨#[x]⟩ (b : Nat) with
  | false =>
    have h' := h
    rw [isAt_occ hb] at h'
    rw [e1, show occAt s.data.toList [x] b = false from h', Bool.false_and, Bool.false_and]
  | true =>
    have hr : b + 1 ≤ s.size := isAt_room h
    rw [isAt_occ hb] at h
    rw [e1, show occAt s.data.toList [x] b = true from h, isAt_occ hr]
theorem isAt_byte {s : ByteArray} {x : UInt8} {b : Nat} (h : isAtB s ⟨#[x]⟩ (b : Nat) = true) : b < s.size ∧ bt s b = x.toNat := by
  have hr : b + 1 ≤ s.size := isAt_room h
  refine ⟨by omega, ?_⟩
  have e := at_one h
  have e2 := tail_byte s x b (by omega)
  refine e2.1 ?_
  have e3 : (s.extract b (b + 1)).data.toList = [x] := by rw [e]
  rw [Lib.extract_data, show b + 1 - b = 1 by omega] at e3
  have hl : b < s.data.toList.length := by rw [str_size]; omega
  rw [List.drop_eq_getElem_cons hl] at e3
  simp at e3
  rw [List.getElem?_eq_getElem hl]
  simpa using e3
theorem name_not {s : ByteArray} {x : UInt8} {b : Nat} (h : isAtB s ⟨#[x]⟩ (b : Nat) = true) (h1 : x.toNat < 128) (h2 : isPart (x.toNat : Int) = false) (h3 : ¬ x.toNat = 58) : nameEnd s b = b := by
  obtain ⟨hl, hb⟩ := isAt_byte h
  have e := sgn_lit s b hl (by omega)
  rw [hb] at e
  exact nameEnd_stop e h2 h3
theorem raw_noname {s : ByteArray} {b : Nat} {l : List Dcl} (h : nameEnd s b = b) : rawO s b l = none := by
  have e : nameO s b = none := by rw [nameO, h, ext_none, split_nil]; rfl
  rw [rawO, e]; rfl
/-- Where it goes on. -/
theorem op_on {s : ByteArray} {l : List Dcl} {n : ByteArray} {k b : Nat} {rs : List Dcl} (hk : k ≤ s.size) (hb : b = blanksN s k) (hne : ¬ b = k) (hn : b < nameEnd s b) : opN s l n k rs = (rawO s b l).bind fun q => opN s l n q.2 (rs ++ [q.1]) := by
  have hbs : b ≤ s.size := by rw [hb]; exact (blanksN_le s k).2 hk
  have h47 : isAtB s ⟨#[47]⟩ (b : Nat) = false := by
    cases e : isAtB s ⟨#[47]⟩ (b : Nat) with
    | false => rfl
    | true => have := name_not e (by decide) (by decide) (by decide); omega
  have h62 : isAtB s ⟨#[62]⟩ (b : Nat) = false := by
    cases e : isAtB s ⟨#[62]⟩ (b : Nat) with
    | false => rfl
    | true => have := name_not e (by decide) (by decide) (by decide); omega
  rw [opN_at hk, ← hb, isAt_two s 47 62 b hbs, h47, Bool.false_and, if_neg (by simp), h62, if_neg (by simp), if_neg hne]
/-- Where it ends. -/
theorem op_end {s : ByteArray} {l : List Dcl} {n : ByteArray} {k b a2 a3 : Nat} {r q3 : Bool} {rs : List Dcl} (hk : k ≤ s.size) (hb : b = blanksN s k) (hor : b = k ∨ ¬ b < nameEnd s b)
    (h1 : (r, a2) = takeF s ⟨#[47]⟩ b false) (h2 : (a3, q3) = mustF s ⟨#[62]⟩ a2 false) : (q3 = false ∧ opN s l n k rs = some (⟨1, n, rs, r, ⟨#[]⟩⟩, a3)) ∨ (q3 = true ∧ opN s l n k rs = none) := by
  have hbs : b ≤ s.size := by rw [hb]; exact (blanksN_le s k).2 hk
  have hlast : (if b = k then none else (rawO s b l).bind fun q => opN s l n q.2 (rs ++ [q.1])) = none := by
    split
    · rfl
    · rename_i hne
      rcases hor with h | h
      · exact absurd h hne
      · rw [raw_noname (by have := (nameEnd_le s b).1; omega)]; rfl
  have hO := opN_at (l := l) (n := n) (rs := rs) hk
  rw [← hb, isAt_two s 47 62 b hbs] at hO
  cases h47 : isAtB s ⟨#[47]⟩ (b : Nat) with
  | true =>
    rw [takeF_hit h47] at h1
    injection h1 with e1 e2
    have e2 : a2 = b + 1 := e2
    subst e1 e2
    cases h62 : isAtB s ⟨#[62]⟩ ((b + 1 : Nat) : Int) with
    | true =>
      rw [mustF_hit h62] at h2
      injection h2 with e3 e4
      have e3 : a3 = b + 2 := e3
      subst e3
      refine .inl ⟨e4, ?_⟩
      rw [hO, h47, h62]; rfl
    | false =>
      rw [mustF_miss h62] at h2
      injection h2 with e3 e4
      refine .inr ⟨e4, ?_⟩
      have h62b : isAtB s ⟨#[62]⟩ (b : Nat) = false := by
        cases e : isAtB s ⟨#[62]⟩ (b : Nat) with
        | false => rfl
        | true =>
          have x1 := (isAt_byte e).2
          have x2 := (isAt_byte h47).2
          rw [x1] at x2
          exact absurd x2 (by decide)
      rw [hO, h47, h62, h62b, if_neg (by simp), if_neg (by simp)]
      exact hlast
  | false =>
    rw [takeF_miss h47] at h1
    injection h1 with e1 e2
    subst e1 e2
    cases h62 : isAtB s ⟨#[62]⟩ (a2 : Nat) with
    | true =>
      rw [mustF_hit h62] at h2
      injection h2 with e3 e4
      have e3 : a3 = a2 + 1 := e3
      subst e3
      refine .inl ⟨e4, ?_⟩
      rw [hO, h47, h62, if_neg (by simp), if_pos rfl]
    | false =>
      rw [mustF_miss h62] at h2
      injection h2 with e3 e4
      refine .inr ⟨e4, ?_⟩
      rw [hO, h47, h62, if_neg (by simp), if_neg (by simp)]
      exact hlast
end Go.Proofs.YtmfkdgdamepbcaaGreatDoor
end
section
/- The program's scan: opens. -/
namespace Go.Proofs.YtmfkdgdamepbcaaGreatDoor
open Go.RowKit Go.Lib
set_option linter.unusedVariables false
set_option linter.unusedSimpArgs false
set_option maxHeartbeats 0
set_option maxRecDepth 100000
theorem quotF_le {s : ByteArray} {a : Nat} {q : Bool} (ha : a ≤ s.size) : (quotF s a q).1.size ≤ s.size := quot_size ha
theorem OwnG.old {α : Type} {d : Kd α} {e : TypeId} {w w2 : World} {base : Nat} {v : Value} {xs : List α} (h : OwnG d e w base v xs) (hs : ∀ k, k < w.heap.size → base ≤ k → w2.heap[k]? = w.heap[k]?) (hz : w.heap.size ≤ w2.heap.size) : OwnG d e w2 base v xs := by
  have h1 := Own.bound h
  have h2 : Own d e w2 base (fun k => okG w base v k ∧ k < w.heap.size) v xs := Own.agree h1 (fun k hk _ => hs k hk.2 hk.1.1) (fun k hk => hs k (h.base_le k hk).2 (h.base_le k hk).1)
  exact h2.mono (fun k hk => ⟨hk.1.1, hk.1.2.1, Nat.lt_of_lt_of_le hk.2 hz⟩)
theorem moved_grown {g : Nat} {W w w3 : World} {ob : Option Nat} (h : Moved g W w) (hg : w.grownBy w3 ob) (hv : ∀ k, ob = some k → W.heap.size ≤ k) : Moved g W w3 :=
  ⟨hg.os.trans h.os, hg.tape.trans h.tape, hg.output.trans h.output, Nat.le_trans h.size hg.size, fun k hk hne => (hg.block k (Nat.lt_of_lt_of_le hk h.size) (fun e => by have := hv k e.symm; omega)).trans (h.block k hk hne)⟩
theorem scOpens_calls {ok : Nat → Prop} (s : ByteArray) (a g : Nat) (A : Option Addr) (c : Nat) (l : List Dcl) (W0 w : World) (hs : s.size ≤ 1000000000) (h : Sc w g s a false) (B : Bs W0 g w) (hr : Row Kd.dcl W0 ok A l) (hz : ∀ d ∈ l, d.pre.size ≤ 1048576 ∧ d.uri.size ≤ 1048576) :
    Calls Tryz.prog 82 #[.pointer (some ⟨g, 0, none⟩), .slice A l.length c] w (ScMk w g s (openO s a l)) := by
  have hg := h.lt
  have ha := h.le
  obtain ⟨R, hR⟩ : ∃ R, R = openO s a l := ⟨_, rfl⟩
  rw [← hR]
  obtain ⟨i, hi, hz0, hz1, hz2⟩ := info_parts Tryz.info_Raw
  have hnz : (.agg #[.string ⟨#[]⟩, .string ⟨#[]⟩] : Value).cells.size = 2 := rfl
  obtain ⟨W, hW, HB0, hsz, HG⟩ := boxed w #[.int .i64 0, .string ⟨#[]⟩, .slice none 0 0, .bool false, .string ⟨#[]⟩] 29
  have HW := Aside0.mk hW
  have RG := Aside0.mk (fun W1 (hm : Moved g W W1) => (hm.block _ hsz (by omega)).trans HG)
  have HB := Aside0.mk HB0
  have HSZ := Aside0.mk (show w.heap.size < W.heap.size from hsz)
  have hBW := B.below HB0
  have HBW := Aside0.mk hBW
  have hSW := h.below HB0
  have HN := Aside0.mk (scName_calls s a g false W hs hSW hBW.here)
  obtain ⟨⟨n, a1, q1⟩, hp⟩ : ∃ p, p = nameF s a false := ⟨_, rfl⟩
  rw [← hp] at HN
  dsimp only at HN
  have HEx := Aside0.mk (fun v a q W1 (h : Sc W1 g s a q) (B : Bs W0 g W1) (hv : v.size ≤ 1000000000) => scExpanded_calls s v a g q A c l W1 h (hr.below B.hb) hv hz B.here)
  have HR0 := Aside0.mk (show (q1 = false → R = opN s l n a1 []) ∧ (q1 = true → R = none) by
    cases e : nameO s a with
    | none =>
      rw [nameF_none e] at hp
      injection hp with e1 e2; injection e2 with e2 e3; subst e1 e2 e3
      exact ⟨fun h => (by cases h), fun _ => (by rw [hR, openO, e]; rfl)⟩
    | some p =>
      obtain ⟨n', k⟩ := p
      rw [nameF_some e] at hp
      injection hp with e1 e2; injection e2 with e2 e3; subst e1 e2 e3
      exact ⟨fun _ => (by rw [hR, openO, e]; rfl), fun h => (by cases h)⟩)
  clear hW HG HB0 hsz h B hBW hSW hr hz hp hR
  have Hz2 := Aside0.mk hz2
  clear hz2
  go_enter Tryz.func82, Tryz.ntmps82
  go_upto_region 1 with fail
  rw [← HW.out]
  go_wp2_with fail
  refine (HN.out).mono ?_
  rintro e w1 ⟨rfl, h1, hm1⟩
  obtain ⟨W2, hW2, HB2, hsz2, HG2⟩ := boxed w1 #[.int .i64 1, .string n, .slice none 0 0, .bool false, .string ⟨#[]⟩] 29
  have hm2 := hm1.trans (Moved.of HB2)
  have h2 := h1.below HB2
  have hgm := hm1.size
  have hgl := h1.lt
  have HW2 := Aside0.mk hW2
  have HG2 := Aside0.mk HG2
  have HL := Aside0.mk hsz2
  have hwW : w.heap.size < W2.heap.size := by have := HSZ.out; have := hm2.size; omega
  have HL2 := Aside0.mk hwW
  clear hW2 HB2 hwW
  go_upto_region 2 with fail
  rw [← HW2.out]
  obtain ⟨gm, hgme⟩ : ∃ gm, gm = w1.heap.size := ⟨_, rfl⟩
  have hne : gm ≠ g := by omega
  have hne2 : g ≠ gm := by omega
  have HGM := Aside0.mk (show W.heap.size ≤ gm by omega)
  have HNE := Aside0.mk (And.intro hne hne2)
  have HGB := Aside0.mk (show g < W2.heap.size from h2.lt)
  rw [← hgme] at HG2 HL ⊢
  clear hgme hgm hne hne2 hsz2
  go_loopg [] (if q1 = true then 0 else s.size - a1 + 1) (fun gd wr => ∃ (k : Nat) (q : Bool) (rs : List Dcl) (Ar : Option Addr) (cr : Nat), gd = (if q = true then 0 else s.size - k + 1) ∧ rs.length + gd ≤ s.size + 1 ∧ Aside ((q = false → R = opN s l n k rs) ∧ (q = true → R = none)) ∧ Sc wr g s k q ∧ Aside (wr.heap[gm]? = some (.cells #[.int .i64 1, .string n, .slice Ar rs.length cr, .bool false, .string ⟨#[]⟩] 29 (0, 0))) ∧ Aside (OwnG Kd.dcl 33 wr W2.heap.size (.slice Ar rs.length cr) rs) ∧ Aside (W2.heap.size ≤ wr.heap.size) ∧ Moved g W wr)
  case atStart =>
    refine ⟨a1, q1, [], none, 0, rfl, ?_, HR0.out, h2, HG2.out, OwnG.nil _ _ _ _, Nat.le_refl _, hm2⟩
    have := h2.le
    split <;> simp
  case round =>
    clear h1 hm1 h2 hm2
    obtain ⟨k, q, rs, Ar, cr, rfl, hrl, ha, hS, hG, hO, hBase, hm⟩ := hrel
    have hks := hS.le
    have hgs : gm < wr.heap.size := (Array.getElem?_eq_some_iff.1 hG.out).1
    have hgg := hS.lt
    -- the end: from a place b on
    obtain ⟨c0, c1, c2, f1, f2⟩ := hS.cells
    cases q with
    | true =>
      have hmx : Moved g wr wr := Moved.refl _ _
      have hSx := hS
      have hRn := ha.out.2 rfl
      clear ha
      obtain ⟨⟨r, a2⟩, ht⟩ : ∃ p, p = takeF s ⟨#[47]⟩ k true := ⟨_, rfl⟩
      have HTk := Aside0.mk (fun W1 (h : Sc W1 g s k true) => scTake_calls s ⟨#[47]⟩ k g true W1 hs h)
      rw [← ht] at HTk
      obtain ⟨⟨a3, q3⟩, hu⟩ : ∃ p, p = mustF s ⟨#[62]⟩ a2 true := ⟨_, rfl⟩
      have HMu := Aside0.mk (fun W1 (h : Sc W1 g s a2 true) => scMust_calls s ⟨#[62]⟩ a2 g true W1 hs h)
      rw [← hu] at HMu
      dsimp only at HTk HMu
      have hend : (q3 = false ∧ R = some (⟨1, n, rs, r, ⟨#[]⟩⟩, a3)) ∨ (q3 = true ∧ R = none) := (.inr ⟨by rw [takeF_bad] at ht; injection ht with _ e; subst e; rw [mustF_bad] at hu; injection hu, hRn⟩)
      clear ht hu
      go_wp2_with fail
      refine (HTk.out _ hSx).mono ?_
      rintro e w4 ⟨rfl, h4, hm4⟩
      have hG4 := (hm4.block gm (Nat.lt_of_lt_of_le hgs hmx.size) HNE.out.1).trans ((hmx.block gm hgs HNE.out.1).trans hG.out)
      have hO4 := (hO.out.moved hmx HGB.out).moved hm4 HGB.out
      have hm4 := (hm.trans hmx).trans hm4
      obtain ⟨m0, m1, m2, m3, m4, n0, n1, n2, n3, n4⟩ := cells5 hG4
      have HG4 := Aside0.mk hG4
      clear hG4
      go_upto_region 10 with fail
      obtain ⟨X2, hX2, HGX, hXm2⟩ := put5_3 HG4.out (.bool r)
      rw [← hX2]
      have h5 := h4.other hXm2 HNE.out.2
      have hm5 := hm4.new hXm2 HGM.out
      have hO5 := hO4.moved hXm2 HL.out
      clear m0 m1 m2 m3 m4 n0 n1 n2 n3 n4 hX2 h4 hm4 hO4 HG4
      go_wp2_with fail
      refine (HMu.out _ h5).mono ?_
      rintro e w6 ⟨rfl, h6, hm6⟩
      have hG6 := (hm6.block gm (Array.getElem?_eq_some_iff.1 HGX).1 HNE.out.1).trans HGX
      have hO6 := Aside0.mk (hO5.moved hm6 HGB.out)
      have hm6 := hm5.trans hm6
      obtain ⟨m0, m1, m2, m3, m4, n0, n1, n2, n3, n4⟩ := cells5 hG6
      have hmX := Aside0.mk ((Moved.of HB.out : Moved g w W).trans hm6)
      have hend := Aside0.mk hend
      have h6 := Aside0.mk h6
      clear hG6 HGX hXm2 h5 hm5 hO5
      have hout := Aside0.mk (fun (w' : World) (hXm : Moved w.heap.size w6 w') =>
        show ScMk w g s R (.returned (.agg #[.int .i64 1, .string n, .slice Ar rs.length cr, .bool r, .string ⟨#[]⟩])) w' from by
          have hS' := h6.out.other hXm (by omega)
          refine ⟨⟨1, n, rs, r, ⟨#[]⟩⟩, _, rfl, ⟨W2.heap.size, by have := HL2.out; omega, hO6.out.moved hXm HL2.out⟩, hmX.out.new hXm (Nat.le_refl _), ?_⟩
          rcases hend.out with ⟨rfl, hRe⟩ | ⟨rfl, hRe⟩
          · rw [hRe]; exact ⟨rfl, hS'⟩
          · rw [hRe]; exact ⟨_, hS'⟩)
      obtain ⟨r0, r1, r2, r3, r4, f0, f1, f2, f3, f4⟩ := cells5 (RG.out _ hm6)
      go_wp2
      obtain ⟨X, hX, hXg, hXm⟩ := out5 (RG.out _ hm6) (.int .i64 1) (.string n) ((.slice Ar rs.length cr)) (.bool r) (.string ⟨#[]⟩)
      rw [← hX]
      clear hX r0 r1 r2 r3 r4 f0 f1 f2 f3 f4
      obtain ⟨p0, p1, p2, p3, p4, _⟩ := cells5 hXg
      refine bodyPost_ret (v := .agg #[.int .i64 1, .string n, (.slice Ar rs.length cr), .bool r, .string ⟨#[]⟩]) ?hres rfl (hout.out _ hXm)
      case hres => simp [results, Tryz.results82, go_sem, p0, p1, p2, p3, p4]
    | false =>
    have hRo := ha.out.1 rfl
    have HBl := Aside0.mk (scBlanks_calls s k g false wr hs hS)
    have hbl := blanksN_le s k
    obtain ⟨b, hbe⟩ : ∃ b, b = blanksN s k := ⟨_, rfl⟩
    have hRo := Aside0.mk hRo
    have hbe := Aside0.mk hbe
    rw [← hbe.out] at HBl hbl
    clear ha
    by_cases hkb : k < b
    case neg =>
      rw [decide_eq_false hkb] at HBl
      go_wp2_with fail
      refine (HBl.out).mono ?_
      rintro e w3 ⟨rfl, hSx, hmx⟩
      clear c0 c1 c2 f1 f2
      obtain ⟨⟨r, a2⟩, ht⟩ : ∃ p, p = takeF s ⟨#[47]⟩ b false := ⟨_, rfl⟩
      have HTk := Aside0.mk (fun W1 (h : Sc W1 g s b false) => scTake_calls s ⟨#[47]⟩ b g false W1 hs h)
      rw [← ht] at HTk
      obtain ⟨⟨a3, q3⟩, hu⟩ : ∃ p, p = mustF s ⟨#[62]⟩ a2 false := ⟨_, rfl⟩
      have HMu := Aside0.mk (fun W1 (h : Sc W1 g s a2 false) => scMust_calls s ⟨#[62]⟩ a2 g false W1 hs h)
      rw [← hu] at HMu
      dsimp only at HTk HMu
      have hend : (q3 = false ∧ R = some (⟨1, n, rs, r, ⟨#[]⟩⟩, a3)) ∨ (q3 = true ∧ R = none) := (by rw [hRo.out]; exact op_end hks hbe.out (.inl (by omega)) ht hu)
      clear ht hu
      go_wp2_with fail
      refine (HTk.out _ hSx).mono ?_
      rintro e w4 ⟨rfl, h4, hm4⟩
      have hG4 := (hm4.block gm (Nat.lt_of_lt_of_le hgs hmx.size) HNE.out.1).trans ((hmx.block gm hgs HNE.out.1).trans hG.out)
      have hO4 := (hO.out.moved hmx HGB.out).moved hm4 HGB.out
      have hm4 := (hm.trans hmx).trans hm4
      obtain ⟨m0, m1, m2, m3, m4, n0, n1, n2, n3, n4⟩ := cells5 hG4
      have HG4 := Aside0.mk hG4
      clear hG4
      go_upto_region 10 with fail
      obtain ⟨X2, hX2, HGX, hXm2⟩ := put5_3 HG4.out (.bool r)
      rw [← hX2]
      have h5 := h4.other hXm2 HNE.out.2
      have hm5 := hm4.new hXm2 HGM.out
      have hO5 := hO4.moved hXm2 HL.out
      clear m0 m1 m2 m3 m4 n0 n1 n2 n3 n4 hX2 h4 hm4 hO4 HG4
      go_wp2_with fail
      refine (HMu.out _ h5).mono ?_
      rintro e w6 ⟨rfl, h6, hm6⟩
      have hG6 := (hm6.block gm (Array.getElem?_eq_some_iff.1 HGX).1 HNE.out.1).trans HGX
      have hO6 := Aside0.mk (hO5.moved hm6 HGB.out)
      have hm6 := hm5.trans hm6
      obtain ⟨m0, m1, m2, m3, m4, n0, n1, n2, n3, n4⟩ := cells5 hG6
      have hmX := Aside0.mk ((Moved.of HB.out : Moved g w W).trans hm6)
      have hend := Aside0.mk hend
      have h6 := Aside0.mk h6
      clear hG6 HGX hXm2 h5 hm5 hO5
      have hout := Aside0.mk (fun (w' : World) (hXm : Moved w.heap.size w6 w') =>
        show ScMk w g s R (.returned (.agg #[.int .i64 1, .string n, .slice Ar rs.length cr, .bool r, .string ⟨#[]⟩])) w' from by
          have hS' := h6.out.other hXm (by omega)
          refine ⟨⟨1, n, rs, r, ⟨#[]⟩⟩, _, rfl, ⟨W2.heap.size, by have := HL2.out; omega, hO6.out.moved hXm HL2.out⟩, hmX.out.new hXm (Nat.le_refl _), ?_⟩
          rcases hend.out with ⟨rfl, hRe⟩ | ⟨rfl, hRe⟩
          · rw [hRe]; exact ⟨rfl, hS'⟩
          · rw [hRe]; exact ⟨_, hS'⟩)
      obtain ⟨r0, r1, r2, r3, r4, f0, f1, f2, f3, f4⟩ := cells5 (RG.out _ hm6)
      go_wp2
      obtain ⟨X, hX, hXg, hXm⟩ := out5 (RG.out _ hm6) (.int .i64 1) (.string n) ((.slice Ar rs.length cr)) (.bool r) (.string ⟨#[]⟩)
      rw [← hX]
      clear hX r0 r1 r2 r3 r4 f0 f1 f2 f3 f4
      obtain ⟨p0, p1, p2, p3, p4, _⟩ := cells5 hXg
      refine bodyPost_ret (v := .agg #[.int .i64 1, .string n, (.slice Ar rs.length cr), .bool r, .string ⟨#[]⟩]) ?hres rfl (hout.out _ hXm)
      case hres => simp [results, Tryz.results82, go_sem, p0, p1, p2, p3, p4]
    rw [decide_eq_true hkb] at HBl
    go_wp2_with fail
    refine (HBl.out).mono ?_
    rintro e w3 ⟨rfl, hSx, hmx⟩
    clear c0 c1 c2 f1 f2
    have HH := Aside0.mk (scHasName_calls s b g w3 hs hSx (HBW.out.moved (hm.trans hmx)).here)
    by_cases hnm : b < nameEnd s b
    case neg =>
      rw [decide_eq_false hnm] at HH
      go_wp2_with fail
      refine (HH.out).mono ?_
      rintro e w3' ⟨rfl, hb3⟩
      have hSx := hSx.below hb3
      have hmx := hmx.trans (Moved.of hb3)
      obtain ⟨⟨r, a2⟩, ht⟩ : ∃ p, p = takeF s ⟨#[47]⟩ b false := ⟨_, rfl⟩
      have HTk := Aside0.mk (fun W1 (h : Sc W1 g s b false) => scTake_calls s ⟨#[47]⟩ b g false W1 hs h)
      rw [← ht] at HTk
      obtain ⟨⟨a3, q3⟩, hu⟩ : ∃ p, p = mustF s ⟨#[62]⟩ a2 false := ⟨_, rfl⟩
      have HMu := Aside0.mk (fun W1 (h : Sc W1 g s a2 false) => scMust_calls s ⟨#[62]⟩ a2 g false W1 hs h)
      rw [← hu] at HMu
      dsimp only at HTk HMu
      have hend : (q3 = false ∧ R = some (⟨1, n, rs, r, ⟨#[]⟩⟩, a3)) ∨ (q3 = true ∧ R = none) := (by rw [hRo.out]; exact op_end hks hbe.out (.inr hnm) ht hu)
      clear ht hu
      go_wp2_with fail
      refine (HTk.out _ hSx).mono ?_
      rintro e w4 ⟨rfl, h4, hm4⟩
      have hG4 := (hm4.block gm (Nat.lt_of_lt_of_le hgs hmx.size) HNE.out.1).trans ((hmx.block gm hgs HNE.out.1).trans hG.out)
      have hO4 := (hO.out.moved hmx HGB.out).moved hm4 HGB.out
      have hm4 := (hm.trans hmx).trans hm4
      obtain ⟨m0, m1, m2, m3, m4, n0, n1, n2, n3, n4⟩ := cells5 hG4
      have HG4 := Aside0.mk hG4
      clear hG4
      go_upto_region 10 with fail
      obtain ⟨X2, hX2, HGX, hXm2⟩ := put5_3 HG4.out (.bool r)
      rw [← hX2]
      have h5 := h4.other hXm2 HNE.out.2
      have hm5 := hm4.new hXm2 HGM.out
      have hO5 := hO4.moved hXm2 HL.out
      clear m0 m1 m2 m3 m4 n0 n1 n2 n3 n4 hX2 h4 hm4 hO4 HG4
      go_wp2_with fail
      refine (HMu.out _ h5).mono ?_
      rintro e w6 ⟨rfl, h6, hm6⟩
      have hG6 := (hm6.block gm (Array.getElem?_eq_some_iff.1 HGX).1 HNE.out.1).trans HGX
      have hO6 := Aside0.mk (hO5.moved hm6 HGB.out)
      have hm6 := hm5.trans hm6
      obtain ⟨m0, m1, m2, m3, m4, n0, n1, n2, n3, n4⟩ := cells5 hG6
      have hmX := Aside0.mk ((Moved.of HB.out : Moved g w W).trans hm6)
      have hend := Aside0.mk hend
      have h6 := Aside0.mk h6
      clear hG6 HGX hXm2 h5 hm5 hO5
      have hout := Aside0.mk (fun (w' : World) (hXm : Moved w.heap.size w6 w') =>
        show ScMk w g s R (.returned (.agg #[.int .i64 1, .string n, .slice Ar rs.length cr, .bool r, .string ⟨#[]⟩])) w' from by
          have hS' := h6.out.other hXm (by omega)
          refine ⟨⟨1, n, rs, r, ⟨#[]⟩⟩, _, rfl, ⟨W2.heap.size, by have := HL2.out; omega, hO6.out.moved hXm HL2.out⟩, hmX.out.new hXm (Nat.le_refl _), ?_⟩
          rcases hend.out with ⟨rfl, hRe⟩ | ⟨rfl, hRe⟩
          · rw [hRe]; exact ⟨rfl, hS'⟩
          · rw [hRe]; exact ⟨_, hS'⟩)
      obtain ⟨r0, r1, r2, r3, r4, f0, f1, f2, f3, f4⟩ := cells5 (RG.out _ hm6)
      go_wp2
      obtain ⟨X, hX, hXg, hXm⟩ := out5 (RG.out _ hm6) (.int .i64 1) (.string n) ((.slice Ar rs.length cr)) (.bool r) (.string ⟨#[]⟩)
      rw [← hX]
      clear hX r0 r1 r2 r3 r4 f0 f1 f2 f3 f4
      obtain ⟨p0, p1, p2, p3, p4, _⟩ := cells5 hXg
      refine bodyPost_ret (v := .agg #[.int .i64 1, .string n, (.slice Ar rs.length cr), .bool r, .string ⟨#[]⟩]) ?hres rfl (hout.out _ hXm)
      case hres => simp [results, Tryz.results82, go_sem, p0, p1, p2, p3, p4]
    rw [decide_eq_true hnm] at HH
    have hRb := Aside0.mk (show R = (rawO s b l).bind fun q => opN s l n q.2 (rs ++ [q.1]) by rw [hRo.out]; exact op_on hks hbe.out (by omega) hnm)
    clear hnm
    go_wp2_with fail
    refine (HH.out).mono ?_
    rintro e w3' ⟨rfl, hb3⟩
    have hSx := hSx.below hb3
    have hmx := hmx.trans (Moved.of hb3)
    have HSX := Aside0.mk hmx.size
    have HNm := Aside0.mk (scName_calls s b g false _ hs hSx (HBW.out.moved (hm.trans hmx)).here)
    obtain ⟨⟨n1, p1, q1'⟩, e1⟩ : ∃ p, p = nameF s b false := ⟨_, rfl⟩
    rw [← e1] at HNm
    have HB1 := Aside0.mk (fun W1 (h : Sc W1 g s p1 q1') => scBlanks_calls s p1 g q1' W1 hs h)
    obtain ⟨b1, eb1⟩ : ∃ b1, b1 = blanksN s p1 := ⟨_, rfl⟩
    rw [← eb1] at HB1
    have HM1 := Aside0.mk (fun W1 (h : Sc W1 g s b1 q1') => scMust_calls s ⟨#[61]⟩ b1 g q1' W1 hs h)
    obtain ⟨⟨p2, q2⟩, e2⟩ : ∃ p, p = mustF s ⟨#[61]⟩ b1 q1' := ⟨_, rfl⟩
    rw [← e2] at HM1
    have HB2 := Aside0.mk (fun W1 (h : Sc W1 g s p2 q2) => scBlanks_calls s p2 g q2 W1 hs h)
    obtain ⟨b2, eb2⟩ : ∃ b2, b2 = blanksN s p2 := ⟨_, rfl⟩
    rw [← eb2] at HB2
    have HQ := Aside0.mk (fun W1 (h : Sc W1 g s b2 q2) (B : Bs W0 g W1) => scQuoted_calls s b2 g q2 W0 W1 hs h B)
    have hqz := Aside0.mk (fun h => quot_size (s := s) (a := b2) (q := q2) h)
    obtain ⟨⟨v, p3, q3⟩, e3⟩ : ∃ p, p = quotF s b2 q2 := ⟨_, rfl⟩
    rw [← e3] at HQ hqz
    have HXp := Aside0.mk (fun W1 (h : Sc W1 g s p3 q3) (B : Bs W0 g W1) hv => HEx.out (spacedB v) p3 q3 W1 h B hv)
    obtain ⟨⟨x, q4⟩, e4⟩ : ∃ p, p = expF (spacedB v) l q3 := ⟨_, rfl⟩
    rw [← e4] at HXp
    dsimp only at HNm HB1 HM1 HB2 HQ HXp hqz
    rw [eb1] at e2
    rw [eb2] at e3
    have hraw := raw_is (n := n1) (v := v) (x := x) (a1 := p1) (a2 := p2) (a3 := p3) (q1 := q1') (q2 := q2) (q3 := q3) (q4 := q4) e1 e2 e3 e4
    have hnext : (q4 = false → R = opN s l n p3 (rs ++ [⟨n1, x⟩]) ∧ b < p3 ∧ p3 ≤ s.size) ∧ (q4 = true → R = none) := by
      rcases hraw with ⟨rfl, hw⟩ | ⟨rfl, hw⟩
      · have := rawO_next (by omega) hw
        exact ⟨fun _ => ⟨by rw [hRb.out, hw]; rfl, this⟩, fun h => (by cases h)⟩
      · exact ⟨fun h => (by cases h), fun _ => (by rw [hRb.out, hw]; rfl)⟩
    have hnext := Aside0.mk hnext
    clear e1 e2 e3 e4 eb1 eb2 hraw hbl
    go_wp2_with fail
    refine (HNm.out).mono ?_
    rintro e w5 ⟨rfl, h5, hm5⟩
    obtain ⟨W5, hW5, HB5, hsz5, HG5⟩ := boxed w5 #[.string n1, .string ⟨#[]⟩] 33
    have hgr : wr.heap.size ≤ w5.heap.size := Nat.le_trans HSX.out hm5.size
    have hmx := (hmx.trans hm5).trans (Moved.of HB5)
    have h5 := h5.below HB5
    have HW5 := Aside0.mk hW5
    have hgr2 : ¬ w5.heap.size = g := by omega
    clear hW5 hm5 hb3 hSx HB5
    go_upto_region 4 with fail
    rw [← HW5.out]
    obtain ⟨gr, hgre⟩ : ∃ gr, gr = w5.heap.size := ⟨_, rfl⟩
    rw [← hgre] at HG5 hgr hgr2 hsz5 ⊢
    clear hgre
    have HG5 := Aside0.mk HG5
    have hmW := hm.trans hmx
    have hm0 : Moved g W5 W5 := Moved.refl _ _
    go_wp2_with fail
    refine (HB1.out _ h5).mono ?_
    rintro e w6 ⟨rfl, h6, hm6⟩
    have hm0 := hm0.trans hm6
    go_wp2_with fail
    refine (HM1.out _ h6).mono ?_
    rintro e w7 ⟨rfl, h7, hm7⟩
    have hm0 := hm0.trans hm7
    go_wp2_with fail
    refine (HB2.out _ h7).mono ?_
    rintro e w8 ⟨rfl, h8, hm8⟩
    have hm0 := hm0.trans hm8
    have hvz := hqz.out h8.le
    have hvz2 : v.size ≤ 1000000000 := by omega
    go_wp2_with fail
    refine (HQ.out _ h8 (HBW.out.moved (hmW.trans hm0))).mono ?_
    rintro e w9 ⟨rfl, h9, hm9⟩
    have hm0 := hm0.trans hm9
    go_wp2_with fail
    refine (spaced_calls v w9 hvz2).mono ?_
    rintro e w10 ⟨rfl, hb10⟩
    have hm0 := hm0.trans (Moved.of hb10)
    have h10 := h9.below hb10
    have hsv : (spacedB v).size ≤ 1000000000 := by rw [spaced_size]; omega
    go_wp2_with fail
    refine (HXp.out _ h10 (HBW.out.moved (hmW.trans hm0)) hsv).mono ?_
    rintro e w11 ⟨rfl, h11, hm11⟩
    have hm0 := hm0.trans hm11
    have hGr := (hm0.block gr hsz5 hgr2).trans HG5.out
    have hmx := hmx.trans hm0
    clear h5 h6 h7 h8 h9 h10 hm6 hm7 hm8 hm9 hm11 hb10 hm0 hmW
    obtain ⟨d0, d1, d2, d3⟩ := cells2 hGr
    have hGr := Aside0.mk hGr
    go_upto_region 8 with fail
    obtain ⟨X1, hX1, HGr, hXm1⟩ := put2_1 hGr.out (.string x)
    rw [← hX1]
    have hgrl : gr < w11.heap.size := (Array.getElem?_eq_some_iff.1 hGr.out).1
    have hSX := h11.other hXm1 (fun e => hgr2 e.symm)
    have hgmr : gm ≠ gr := by omega
    have hG1 := (hXm1.block gm (Nat.lt_of_lt_of_le hgs hmx.size) hgmr).trans ((hmx.block gm hgs HNE.out.1).trans hG.out)
    have hO1 := Aside0.mk (hO.out.old (w2 := X1) (fun k hk hb => (hXm1.block k (Nat.lt_of_lt_of_le hk hmx.size) (by omega)).trans (hmx.block k hk (by have := HGB.out; omega))) (Nat.le_trans hmx.size hXm1.size))
    have hmX1 : Moved g W X1 := (hm.trans hmx).new hXm1 (by have := hm.size; omega)
    have hbX : W2.heap.size ≤ X1.heap.size := Nat.le_trans hBase.out (Nat.le_trans hmx.size hXm1.size)
    clear d0 d1 d2 d3 hX1 h11
    obtain ⟨d0, d1, d2, d3⟩ := cells2 HGr
    obtain ⟨m0, m1, m2, m3, m4, n0, n1', n2, n3, n4⟩ := cells5 hG1
    have hG1 := Aside0.mk hG1
    have hSX := Aside0.mk hSX
    have HGr := Aside0.mk HGr
    clear hGr hXm1
    obtain ⟨cells, hown, hsays⟩ := hO1.out
    have hown' := Aside0.mk hown
    have hsays := Aside0.mk hsays
    have hlt3 := Aside0.mk hown.lt
    have hnews := Aside0.mk (pair_news X1 (.string n1) (.string x) 33)
    clear hown
    go_wp2_with (at_builtin; refine wpList_append_own_at _ rfl _ _ 27 rfl W2.heap.size 33 i _ 2 _ Tryz.underlying27 hi hz0 hz1 rfl hnz (by decide) _ _ _ rfl (hown'.out.alloc _) ⟨X1.heap.size, 0, none⟩ 1 1 [.string n1, .string x] rfl ?qc1 ?qc2 ?qc3 ?qc4 ?qc5 ?qc6 ?_)
    case qc1 => rfl
    case qc2 => exact hnews.out
    case qc3 => exact pair_one _ _
    case qc4 => unfold maxLen; omega
    case qc5 => rw [Hz2.out]; omega
    case qc6 => simp; omega
    intro v' w12 hown3 hgrow3 _ hat3
    have HN2 := Aside0.mk (OwnG.snoc (d := Kd.dcl) (x := ⟨n1, x⟩) hown'.out hsays.out hbX (Below.refl _ _) rfl hown3 hgrow3 hat3)
    have hm12 := moved_grown (hmX1.trans (Moved.of (below_alloc (Below.refl _ _) _))) hgrow3 (fun k hk => by have := (hlt3.out k hk).1; have := HL.out; have := HGM.out; omega)
    have hzal : X1.heap.size < (X1.alloc (.cells #[.string n1, .string x] 33)).heap.size := by rw [World.alloc, Array.size_push]; omega
    have hG12 := Aside0.mk (show w12.heap[gm]? = some (.cells #[.int .i64 1, .string n, .slice Ar rs.length cr, .bool false, .string ⟨#[]⟩] 29 (0, 0)) from
      (hgrow3.block gm (by have := (Array.getElem?_eq_some_iff.1 hG1.out).1; omega) (fun e => by have := (hlt3.out gm e.symm).1; have := HL.out; omega)).trans (((below_alloc (Below.refl X1.heap.size X1) _).block gm (Array.getElem?_eq_some_iff.1 hG1.out).1).trans hG1.out))
    have hS12 : Sc w12 g s p3 q4 := ⟨(hgrow3.block g (by have := hSX.out.lt; omega) (fun e => by have := (hlt3.out g e.symm).1; have := HGB.out; omega)).trans (((below_alloc (Below.refl X1.heap.size X1) _).block g hSX.out.lt).trans hSX.out.heap), hSX.out.le⟩
    have hbs12 : W2.heap.size ≤ w12.heap.size := Nat.le_trans hbX (Nat.le_trans (Nat.le_of_lt hzal) hgrow3.size)
    obtain ⟨Av, cv, hv', _⟩ := Own.slice HN2.out
    rw [List.length_append, List.length_singleton] at hv'
    subst hv'
    clear hown3 hgrow3 hat3 m0 m1 m2 m3 m4 n0 n1' n2 n3 n4 d0 d1 d2 d3 hzal
    obtain ⟨m0, m1, m2, m3, m4, n0, n1', n2, n3, n4⟩ := cells5 hG12.out
    go_wp2
    obtain ⟨X2, hX2, HGX, hXm2⟩ := put5_2 hG12.out (.slice Av (rs.length + 1) cv)
    rw [← hX2]
    have hm13 := hm12.new hXm2 HGM.out
    have hO13 := Aside0.mk (HN2.out.moved hXm2 HL.out)
    have hS13 := hS12.other hXm2 HNE.out.2
    have HGX := Aside0.mk HGX
    have hbs13 := Aside0.mk (Nat.le_trans hbs12 hXm2.size)
    clear m0 m1 m2 m3 m4 n0 n1' n2 n3 n4 hX2 hXm2
    go_roundg (if q4 = true then 0 else s.size - p3 + 1)
    case measure =>
      have := hnext.out
      cases q4 with
      | true => simp
      | false => have := this.1 rfl; simp; omega
    case rel =>
      refine ⟨p3, q4, rs ++ [⟨n1, x⟩], Av, cv, rfl, ?_, ⟨fun h => (hnext.out.1 h).1, hnext.out.2⟩, hS13, ?_, ?_, hbs13.out, hm13⟩
      · have := hnext.out
        rw [List.length_append, List.length_singleton]
        simp at hrl
        cases q4 with
        | true => simp; omega
        | false => have := this.1 rfl; simp; omega
      · rw [List.length_append, List.length_singleton]; exact HGX.out
      · rw [List.length_append, List.length_singleton]; exact hO13.out
end Go.Proofs.YtmfkdgdamepbcaaGreatDoor
end
section
/- The program's scan: mark; MarkAt of the program. -/
namespace Go.Proofs.YtmfkdgdamepbcaaGreatDoor
open Go.RowKit Go.Lib
set_option linter.unusedVariables false
set_option linter.unusedSimpArgs false
set_option maxHeartbeats 0
set_option maxRecDepth 100000
theorem close_is {s n : ByteArray} {c a1 a3 : Nat} {q1 q3 : Bool} (h1 : (n, a1, q1) = nameF s c false) (h2 : (a3, q3) = mustF s ⟨#[62]⟩ (blanksN s a1) q1) : (q3 = false ∧ closeO s c = some (⟨2, n, [], false, ⟨#[]⟩⟩, a3)) ∨ (q3 = true ∧ closeO s c = none) := by
  cases e : nameO s c with
  | none =>
    rw [nameF_none e] at h1
    injection h1 with e1 e2; injection e2 with e2 e3; subst e1 e2 e3
    rw [mustF_bad] at h2
    injection h2 with _ e4
    exact .inr ⟨e4, by rw [closeO, e]; rfl⟩
  | some p =>
    obtain ⟨n', k⟩ := p
    rw [nameF_some e] at h1
    injection h1 with e1 e2; injection e2 with e2 e3; subst e1 e2 e3
    cases hi : isAtB s ⟨#[62]⟩ (blanksN s a1 : Nat) with
    | false =>
      rw [mustF_miss hi] at h2
      injection h2 with _ e4
      refine .inr ⟨e4, ?_⟩
      rw [closeO, e]
      simp only [Option.bind_some]
      rw [if_neg (by rw [hi]; simp)]
    | true =>
      rw [mustF_hit hi] at h2
      injection h2 with e4 e5
      have e4 : a3 = blanksN s a1 + 1 := e4
      subst e4
      refine .inl ⟨e5, ?_⟩
      rw [closeO, e]
      simp only [Option.bind_some]
      rw [if_pos hi]
theorem plain_is {s t v : ByteArray} {kd : Int} {c a3 : Nat} {q3 : Bool} (h : (v, a3, q3) = upF s t c false) : (q3 = false ∧ plainO kd s t c = some (⟨kd, ⟨#[]⟩, [], false, v⟩, a3)) ∨ (q3 = true ∧ plainO kd s t c = none) := by
  cases e : toO s t c with
  | none =>
    rw [upF_none e] at h
    injection h with e1 e2; injection e2 with e2 e3
    exact .inr ⟨e3, by rw [plainO, e]; rfl⟩
  | some p =>
    obtain ⟨b, k⟩ := p
    rw [upF_some e] at h
    injection h with e1 e2; injection e2 with e2 e3; subst e1 e2
    exact .inl ⟨e3, by rw [plainO, e]; rfl⟩
theorem scMark_calls {ok : Nat → Prop} (s : ByteArray) (a g : Nat) (A : Option Addr) (c : Nat) (l : List Dcl) (W0 w : World) (hs : s.size ≤ 1000000000) (h : Sc w g s a false) (B : Bs W0 g w) (hr : Row Kd.dcl W0 ok A l) (hz : ∀ d ∈ l, d.pre.size ≤ 1048576 ∧ d.uri.size ≤ 1048576) :
    Calls Tryz.prog 40 #[.pointer (some ⟨g, 0, none⟩), .slice A l.length c] w (ScMk w g s (mkO s a l)) := by
  have hg := h.lt
  have ha := h.le
  obtain ⟨R, hR⟩ : ∃ R, R = mkO s a l := ⟨_, rfl⟩
  rw [← hR]
  obtain ⟨W, hW, HB0, hsz, HG⟩ := boxed w #[.int .i64 0, .string ⟨#[]⟩, .slice none 0 0, .bool false, .string ⟨#[]⟩] 29
  have HW := Aside0.mk hW
  have RG := Aside0.mk (fun W1 (hm : Moved g W W1) => (hm.block _ hsz (by omega)).trans HG)
  have HB := Aside0.mk HB0
  have HSZ := Aside0.mk (show w.heap.size < W.heap.size from hsz)
  have hBW := B.below HB0
  have HBW := Aside0.mk hBW
  have hSW := h.below HB0
  have HR := Aside0.mk hR
  have HTo := Aside0.mk (fun a W1 (h : Sc W1 g s a false) (B : Bs W0 g W1) => scTold_calls s a g W0 W1 hs h B)
  have HOp := Aside0.mk (fun a W1 (h : Sc W1 g s a false) (B : Bs W0 g W1) => scOpens_calls s a g A c l W0 W1 hs h B hr hz)
  have HTx := Aside0.mk (fun a W1 (h : Sc W1 g s a false) (B : Bs W0 g W1) => scText_calls s a g A c l W0 W1 hs h B hr hz)
  have HT := Aside0.mk (fun t W1 (h : Sc W1 g s a false) => scTake_calls s t a g false W1 hs h)
  clear hW HG HB0 hsz h B hBW hr hz hR
  have H1 := Aside0.mk (fun W1 h => HT.out ⟨#[60, 33, 45, 45]⟩ W1 h)
  have H2 := Aside0.mk (fun W1 h => HT.out ⟨#[60, 63]⟩ W1 h)
  have H3 := Aside0.mk (fun W1 h => HT.out ⟨#[60, 47]⟩ W1 h)
  have H4 := Aside0.mk (fun W1 h => HT.out ⟨#[60, 33, 91, 67, 68, 65, 84, 65, 91]⟩ W1 h)
  have H5 := Aside0.mk (fun W1 h => HT.out ⟨#[60]⟩ W1 h)
  cases h1 : isAtB s ⟨#[60, 33, 45, 45]⟩ (a : Nat) with
  | true =>
    have hRR := Aside0.mk (show R = plainO 4 s ⟨#[45, 45, 62]⟩ (a + 4) from HR.out.trans (if_pos h1))
    rw [takeF_hit h1] at H1
    have H1 : Aside0 (∀ W1, Sc W1 g s a false → Calls Tryz.prog 60 #[.pointer (some ⟨g, 0, none⟩), .string ⟨#[60, 33, 45, 45]⟩] W1 fun e w' => e = .returned (.bool true) ∧ Sc w' g s (a + 4) false ∧ Moved g W1 w') := H1
    clear h1
    have HU := Aside0.mk (fun W1 (h : Sc W1 g s (a + 4) false) hE => scUpTo_calls s ⟨#[45, 45, 62]⟩ (a + 4) g false W1 hs (by decide) h hE)
    obtain ⟨⟨v, a3, q3⟩, hu⟩ : ∃ p, p = upF s ⟨#[45, 45, 62]⟩ (a + 4) false := ⟨_, rfl⟩
    have hfin := Aside0.mk (plain_is (kd := 4) hu)
    rw [← hu] at HU
    dsimp only at HU
    rw [← hRR.out] at hfin
    clear hu
    go_enter Tryz.func40, Tryz.ntmps40
    go_upto_region 1 with fail
    rw [← HW.out]
    have hm0 : Moved g W W := Moved.refl _ _
    go_wp2_with fail
    refine (H1.out _ hSW).mono ?_
    rintro e w1 ⟨rfl, h1, hm1⟩
    have hm1 := hm0.trans hm1
    clear hm0
    go_wp2_with fail
    refine (HU.out _ h1 (HBW.out.moved hm1).here).mono ?_
    rintro e w8 ⟨rfl, h8, hm8⟩
    have hm8 := hm1.trans hm8
    have hmW := Aside0.mk ((Moved.of HB.out : Moved g w W).trans hm8)
    have h8 := Aside0.mk h8
    have hout := Aside0.mk (fun (w' : World) (hXm : Moved w.heap.size w8 w') =>
      show ScMk w g s R (.returned (.agg #[.int .i64 4, .string ⟨#[]⟩, .slice none 0 0, .bool false, .string v])) w' from by
        rcases hfin.out with ⟨e, hf⟩ | ⟨e, hf⟩
        · have h8 := h8.out; rw [e] at h8; exact ScMk.at hg hmW.out h8 hf hXm
        · have h8 := h8.out; rw [e] at h8; exact ScMk.none hg hmW.out h8 hf hXm)
    obtain ⟨r0, r1, r2, r3, r4, f0, f1, f2, f3, f4⟩ := cells5 (RG.out _ hm8)
    go_wp2
    obtain ⟨X, hX, hXg, hXm⟩ := out5 (RG.out _ hm8) (.int .i64 4) (.string ⟨#[]⟩) ((.slice none 0 0)) (.bool false) (.string v)
    rw [← hX]
    clear hX r0 r1 r2 r3 r4 f0 f1 f2 f3 f4
    obtain ⟨p0, p1, p2, p3, p4, _⟩ := cells5 hXg
    refine bodyPost_ret (v := .agg #[.int .i64 4, .string ⟨#[]⟩, (.slice none 0 0), .bool false, .string v]) ?hres rfl (hout.out _ hXm)
    case hres => simp [results, Tryz.results40, go_sem, p0, p1, p2, p3, p4]
  | false =>
  have HR := Aside0.mk (HR.out.trans (if_neg (by rw [h1]; simp)))
  rw [takeF_miss h1] at H1
  dsimp only at H1
  clear h1
  cases h2 : isAtB s ⟨#[60, 63]⟩ (a : Nat) with
  | true =>
    have hfin := Aside0.mk (HR.out.trans (if_pos h2))
    rw [takeF_hit h2] at H2
    have H2 : Aside0 (∀ W1, Sc W1 g s a false → Calls Tryz.prog 60 #[.pointer (some ⟨g, 0, none⟩), .string ⟨#[60, 63]⟩] W1 fun e w' => e = .returned (.bool true) ∧ Sc w' g s (a + 2) false ∧ Moved g W1 w') := H2
    clear h2
    go_enter Tryz.func40, Tryz.ntmps40
    go_upto_region 1 with fail
    rw [← HW.out]
    have hm0 : Moved g W W := Moved.refl _ _
    go_wp2_with fail
    refine (H1.out _ hSW).mono ?_
    rintro e w1 ⟨rfl, h1, hm1⟩
    have hm1 := hm0.trans hm1
    clear hm0
    go_wp2_with fail
    refine (H2.out _ h1).mono ?_
    rintro e w2 ⟨rfl, h2, hm2⟩
    have hm2 := hm1.trans hm2
    clear h1 hm1
    have hmm := hm2
    go_wp2_with fail
    refine (HTo.out _ _ h2 (HBW.out.moved hm2)).mono ?_
    rintro e wk ⟨m, rv, rfl, ⟨b, hb, hO⟩, hmk, hpost⟩
    obtain ⟨Ar, cr, rfl, _⟩ := Own.slice hO
    have hmX := hmm.trans hmk
    have hmW := Aside0.mk ((Moved.of HB.out : Moved g w W).trans hmX)
    have hbb := Aside0.mk (show w.heap.size < b by have := HSZ.out; have := hmm.size; omega)
    have hout := Aside0.mk (fun (w' : World) (hXm : Moved w.heap.size wk w') =>
      show ScMk w g s R (.returned (.agg #[.int .i64 m.kind, .string m.name, .slice Ar m.raws.length cr, .bool m.empty, .string m.text])) w' from by
        refine ⟨m, _, rfl, ⟨b, by have := hbb.out; omega, hO.moved hXm hbb.out⟩, hmW.out.new hXm (Nat.le_refl _), ?_⟩
        rw [hfin.out]
        revert hpost
        split
        · rintro ⟨a', h'⟩; exact ⟨a', h'.other hXm (by omega)⟩
        · rintro ⟨e, h'⟩; exact ⟨e, h'.other hXm (by omega)⟩)
    clear hO hpost hmm hmk
    simp only [mkV]
    obtain ⟨r0, r1, r2, r3, r4, f0, f1, f2, f3, f4⟩ := cells5 (RG.out _ hmX)
    go_wp2
    obtain ⟨X, hX, hXg, hXm⟩ := out5 (RG.out _ hmX) (.int .i64 m.kind) (.string m.name) ((.slice Ar m.raws.length cr)) (.bool m.empty) (.string m.text)
    rw [← hX]
    clear hX r0 r1 r2 r3 r4 f0 f1 f2 f3 f4
    obtain ⟨p0, p1, p2, p3, p4, _⟩ := cells5 hXg
    refine bodyPost_ret (v := .agg #[.int .i64 m.kind, .string m.name, (.slice Ar m.raws.length cr), .bool m.empty, .string m.text]) ?hres rfl (hout.out _ hXm)
    case hres => simp [results, Tryz.results40, go_sem, p0, p1, p2, p3, p4]
  | false =>
  have HR := Aside0.mk (HR.out.trans (if_neg (by rw [h2]; simp)))
  rw [takeF_miss h2] at H2
  dsimp only at H2
  clear h2
  cases h3 : isAtB s ⟨#[60, 47]⟩ (a : Nat) with
  | true =>
    have HR := Aside0.mk (HR.out.trans (if_pos h3))
    rw [takeF_hit h3] at H3
    have H3 : Aside0 (∀ W1, Sc W1 g s a false → Calls Tryz.prog 60 #[.pointer (some ⟨g, 0, none⟩), .string ⟨#[60, 47]⟩] W1 fun e w' => e = .returned (.bool true) ∧ Sc w' g s (a + 2) false ∧ Moved g W1 w') := H3
    clear h3
    have HN := Aside0.mk (fun W1 (h : Sc W1 g s (a + 2) false) hE => scName_calls s (a + 2) g false W1 hs h hE)
    obtain ⟨⟨n, a1, q1⟩, hp⟩ : ∃ p, p = nameF s (a + 2) false := ⟨_, rfl⟩
    rw [← hp] at HN
    have HBl := Aside0.mk (fun W1 (h : Sc W1 g s a1 q1) => scBlanks_calls s a1 g q1 W1 hs h)
    obtain ⟨b1, hb1⟩ : ∃ b1, b1 = blanksN s a1 := ⟨_, rfl⟩
    rw [← hb1] at HBl
    have HM := Aside0.mk (fun W1 (h : Sc W1 g s b1 q1) => scMust_calls s ⟨#[62]⟩ b1 g q1 W1 hs h)
    obtain ⟨⟨a3, q3⟩, hu⟩ : ∃ p, p = mustF s ⟨#[62]⟩ b1 q1 := ⟨_, rfl⟩
    rw [← hu] at HM
    dsimp only at HN HBl HM
    rw [hb1] at hu
    have hfin := Aside0.mk (close_is hp hu)
    rw [← HR.out] at hfin
    clear hu hp hb1
    go_enter Tryz.func40, Tryz.ntmps40
    go_upto_region 1 with fail
    rw [← HW.out]
    have hm0 : Moved g W W := Moved.refl _ _
    go_wp2_with fail
    refine (H1.out _ hSW).mono ?_
    rintro e w1 ⟨rfl, h1, hm1⟩
    have hm1 := hm0.trans hm1
    clear hm0
    go_wp2_with fail
    refine (H2.out _ h1).mono ?_
    rintro e w2 ⟨rfl, h2, hm2⟩
    have hm2 := hm1.trans hm2
    clear h1 hm1
    go_wp2_with fail
    refine (H3.out _ h2).mono ?_
    rintro e w3 ⟨rfl, h3, hm3⟩
    have hm3 := hm2.trans hm3
    clear h2 hm2
    go_wp2_with fail
    refine (HN.out _ h3 (HBW.out.moved hm3).here).mono ?_
    rintro e w4 ⟨rfl, h4, hm4⟩
    have hm4 := hm3.trans hm4
    obtain ⟨W5, hW5, HB5, hsz5, HG5⟩ := boxed w4 #[.int .i64 2, .string n, .slice none 0 0, .bool false, .string ⟨#[]⟩] 29
    have h5 := h4.below HB5
    have hm5 := hm4.trans (Moved.of HB5)
    have hne : ¬ w4.heap.size = g := by have := h4.lt; omega
    have HW5 := Aside0.mk hW5
    have HG5 := Aside0.mk HG5
    clear hW5 HB5 h4 hm4 h3 hm3
    go_upto_region 7 with fail
    rw [← HW5.out]
    go_wp2_with fail
    refine (HBl.out _ h5).mono ?_
    rintro e w6 ⟨rfl, h6, hm6⟩
    go_wp2_with fail
    refine (HM.out _ h6).mono ?_
    rintro e w7 ⟨rfl, h7, hm7⟩
    have HG7 := ((hm6.trans hm7).block _ hsz5 hne).trans HG5.out
    have hm7 := (hm5.trans hm6).trans hm7
    obtain ⟨m0, m1, m2, m3, m4, n0, n1, n2, n3, n4⟩ := cells5 HG7
    have hmW := Aside0.mk ((Moved.of HB.out : Moved g w W).trans hm7)
    have h7 := Aside0.mk h7
    clear HG7 hm5 hm6 h5 h6
    have hout := Aside0.mk (fun (w' : World) (hXm : Moved w.heap.size w7 w') =>
      show ScMk w g s R (.returned (.agg #[.int .i64 2, .string n, .slice none 0 0, .bool false, .string ⟨#[]⟩])) w' from by
        rcases hfin.out with ⟨e, hf⟩ | ⟨e, hf⟩
        · have h7 := h7.out; rw [e] at h7; exact ScMk.at hg hmW.out h7 hf hXm
        · have h7 := h7.out; rw [e] at h7; exact ScMk.none hg hmW.out h7 hf hXm)
    obtain ⟨r0, r1, r2, r3, r4, f0, f1, f2, f3, f4⟩ := cells5 (RG.out _ hm7)
    go_wp2
    obtain ⟨X, hX, hXg, hXm⟩ := out5 (RG.out _ hm7) (.int .i64 2) (.string n) ((.slice none 0 0)) (.bool false) (.string ⟨#[]⟩)
    rw [← hX]
    clear hX r0 r1 r2 r3 r4 f0 f1 f2 f3 f4
    obtain ⟨p0, p1, p2, p3, p4, _⟩ := cells5 hXg
    refine bodyPost_ret (v := .agg #[.int .i64 2, .string n, (.slice none 0 0), .bool false, .string ⟨#[]⟩]) ?hres rfl (hout.out _ hXm)
    case hres => simp [results, Tryz.results40, go_sem, p0, p1, p2, p3, p4]
  | false =>
  have HR := Aside0.mk (HR.out.trans (if_neg (by rw [h3]; simp)))
  rw [takeF_miss h3] at H3
  dsimp only at H3
  clear h3
  cases h4 : isAtB s ⟨#[60, 33, 91, 67, 68, 65, 84, 65, 91]⟩ (a : Nat) with
  | true =>
    have hRR := Aside0.mk (show R = plainO 3 s ⟨#[93, 93, 62]⟩ (a + 9) from HR.out.trans (if_pos h4))
    rw [takeF_hit h4] at H4
    have H4 : Aside0 (∀ W1, Sc W1 g s a false → Calls Tryz.prog 60 #[.pointer (some ⟨g, 0, none⟩), .string ⟨#[60, 33, 91, 67, 68, 65, 84, 65, 91]⟩] W1 fun e w' => e = .returned (.bool true) ∧ Sc w' g s (a + 9) false ∧ Moved g W1 w') := H4
    clear h4
    have HU := Aside0.mk (fun W1 (h : Sc W1 g s (a + 9) false) hE => scUpTo_calls s ⟨#[93, 93, 62]⟩ (a + 9) g false W1 hs (by decide) h hE)
    obtain ⟨⟨v, a3, q3⟩, hu⟩ : ∃ p, p = upF s ⟨#[93, 93, 62]⟩ (a + 9) false := ⟨_, rfl⟩
    have hfin := Aside0.mk (plain_is (kd := 3) hu)
    rw [← hu] at HU
    dsimp only at HU
    rw [← hRR.out] at hfin
    clear hu
    go_enter Tryz.func40, Tryz.ntmps40
    go_upto_region 1 with fail
    rw [← HW.out]
    have hm0 : Moved g W W := Moved.refl _ _
    go_wp2_with fail
    refine (H1.out _ hSW).mono ?_
    rintro e w1 ⟨rfl, h1, hm1⟩
    have hm1 := hm0.trans hm1
    clear hm0
    go_wp2_with fail
    refine (H2.out _ h1).mono ?_
    rintro e w2 ⟨rfl, h2, hm2⟩
    have hm2 := hm1.trans hm2
    clear h1 hm1
    go_wp2_with fail
    refine (H3.out _ h2).mono ?_
    rintro e w3 ⟨rfl, h3, hm3⟩
    have hm3 := hm2.trans hm3
    clear h2 hm2
    go_wp2_with fail
    refine (H4.out _ h3).mono ?_
    rintro e w4 ⟨rfl, h4, hm4⟩
    have hm4 := hm3.trans hm4
    clear h3 hm3
    go_wp2_with fail
    refine (HU.out _ h4 (HBW.out.moved hm4).here).mono ?_
    rintro e w8 ⟨rfl, h8, hm8⟩
    have hm8 := hm4.trans hm8
    have hmW := Aside0.mk ((Moved.of HB.out : Moved g w W).trans hm8)
    have h8 := Aside0.mk h8
    have hout := Aside0.mk (fun (w' : World) (hXm : Moved w.heap.size w8 w') =>
      show ScMk w g s R (.returned (.agg #[.int .i64 3, .string ⟨#[]⟩, .slice none 0 0, .bool false, .string v])) w' from by
        rcases hfin.out with ⟨e, hf⟩ | ⟨e, hf⟩
        · have h8 := h8.out; rw [e] at h8; exact ScMk.at hg hmW.out h8 hf hXm
        · have h8 := h8.out; rw [e] at h8; exact ScMk.none hg hmW.out h8 hf hXm)
    obtain ⟨r0, r1, r2, r3, r4, f0, f1, f2, f3, f4⟩ := cells5 (RG.out _ hm8)
    go_wp2
    obtain ⟨X, hX, hXg, hXm⟩ := out5 (RG.out _ hm8) (.int .i64 3) (.string ⟨#[]⟩) ((.slice none 0 0)) (.bool false) (.string v)
    rw [← hX]
    clear hX r0 r1 r2 r3 r4 f0 f1 f2 f3 f4
    obtain ⟨p0, p1, p2, p3, p4, _⟩ := cells5 hXg
    refine bodyPost_ret (v := .agg #[.int .i64 3, .string ⟨#[]⟩, (.slice none 0 0), .bool false, .string v]) ?hres rfl (hout.out _ hXm)
    case hres => simp [results, Tryz.results40, go_sem, p0, p1, p2, p3, p4]
  | false =>
  have HR := Aside0.mk (HR.out.trans (if_neg (by rw [h4]; simp)))
  rw [takeF_miss h4] at H4
  dsimp only at H4
  clear h4
  cases h5 : isAtB s ⟨#[60]⟩ (a : Nat) with
  | true =>
    have hfin := Aside0.mk (HR.out.trans (if_pos h5))
    rw [takeF_hit h5] at H5
    have H5 : Aside0 (∀ W1, Sc W1 g s a false → Calls Tryz.prog 60 #[.pointer (some ⟨g, 0, none⟩), .string ⟨#[60]⟩] W1 fun e w' => e = .returned (.bool true) ∧ Sc w' g s (a + 1) false ∧ Moved g W1 w') := H5
    clear h5
    go_enter Tryz.func40, Tryz.ntmps40
    go_upto_region 1 with fail
    rw [← HW.out]
    have hm0 : Moved g W W := Moved.refl _ _
    go_wp2_with fail
    refine (H1.out _ hSW).mono ?_
    rintro e w1 ⟨rfl, h1, hm1⟩
    have hm1 := hm0.trans hm1
    clear hm0
    go_wp2_with fail
    refine (H2.out _ h1).mono ?_
    rintro e w2 ⟨rfl, h2, hm2⟩
    have hm2 := hm1.trans hm2
    clear h1 hm1
    go_wp2_with fail
    refine (H3.out _ h2).mono ?_
    rintro e w3 ⟨rfl, h3, hm3⟩
    have hm3 := hm2.trans hm3
    clear h2 hm2
    go_wp2_with fail
    refine (H4.out _ h3).mono ?_
    rintro e w4 ⟨rfl, h4, hm4⟩
    have hm4 := hm3.trans hm4
    clear h3 hm3
    go_wp2_with fail
    refine (H5.out _ h4).mono ?_
    rintro e w5 ⟨rfl, h5, hm5⟩
    have hm5 := hm4.trans hm5
    clear h4 hm4
    have hmm := hm5
    go_wp2_with fail
    refine (HOp.out _ _ h5 (HBW.out.moved hm5)).mono ?_
    rintro e wk ⟨m, rv, rfl, ⟨b, hb, hO⟩, hmk, hpost⟩
    obtain ⟨Ar, cr, rfl, _⟩ := Own.slice hO
    have hmX := hmm.trans hmk
    have hmW := Aside0.mk ((Moved.of HB.out : Moved g w W).trans hmX)
    have hbb := Aside0.mk (show w.heap.size < b by have := HSZ.out; have := hmm.size; omega)
    have hout := Aside0.mk (fun (w' : World) (hXm : Moved w.heap.size wk w') =>
      show ScMk w g s R (.returned (.agg #[.int .i64 m.kind, .string m.name, .slice Ar m.raws.length cr, .bool m.empty, .string m.text])) w' from by
        refine ⟨m, _, rfl, ⟨b, by have := hbb.out; omega, hO.moved hXm hbb.out⟩, hmW.out.new hXm (Nat.le_refl _), ?_⟩
        rw [hfin.out]
        revert hpost
        split
        · rintro ⟨a', h'⟩; exact ⟨a', h'.other hXm (by omega)⟩
        · rintro ⟨e, h'⟩; exact ⟨e, h'.other hXm (by omega)⟩)
    clear hO hpost hmm hmk
    simp only [mkV]
    obtain ⟨r0, r1, r2, r3, r4, f0, f1, f2, f3, f4⟩ := cells5 (RG.out _ hmX)
    go_wp2
    obtain ⟨X, hX, hXg, hXm⟩ := out5 (RG.out _ hmX) (.int .i64 m.kind) (.string m.name) ((.slice Ar m.raws.length cr)) (.bool m.empty) (.string m.text)
    rw [← hX]
    clear hX r0 r1 r2 r3 r4 f0 f1 f2 f3 f4
    obtain ⟨p0, p1, p2, p3, p4, _⟩ := cells5 hXg
    refine bodyPost_ret (v := .agg #[.int .i64 m.kind, .string m.name, (.slice Ar m.raws.length cr), .bool m.empty, .string m.text]) ?hres rfl (hout.out _ hXm)
    case hres => simp [results, Tryz.results40, go_sem, p0, p1, p2, p3, p4]
  | false =>
    have hfin := Aside0.mk (HR.out.trans (if_neg (by rw [h5]; simp)))
    rw [takeF_miss h5] at H5
    dsimp only at H5
    clear h5
    go_enter Tryz.func40, Tryz.ntmps40
    go_upto_region 1 with fail
    rw [← HW.out]
    have hm0 : Moved g W W := Moved.refl _ _
    go_wp2_with fail
    refine (H1.out _ hSW).mono ?_
    rintro e w1 ⟨rfl, h1, hm1⟩
    have hm1 := hm0.trans hm1
    clear hm0
    go_wp2_with fail
    refine (H2.out _ h1).mono ?_
    rintro e w2 ⟨rfl, h2, hm2⟩
    have hm2 := hm1.trans hm2
    clear h1 hm1
    go_wp2_with fail
    refine (H3.out _ h2).mono ?_
    rintro e w3 ⟨rfl, h3, hm3⟩
    have hm3 := hm2.trans hm3
    clear h2 hm2
    go_wp2_with fail
    refine (H4.out _ h3).mono ?_
    rintro e w4 ⟨rfl, h4, hm4⟩
    have hm4 := hm3.trans hm4
    clear h3 hm3
    go_wp2_with fail
    refine (H5.out _ h4).mono ?_
    rintro e w5 ⟨rfl, h5, hm5⟩
    have hm5 := hm4.trans hm5
    clear h4 hm4
    have hmm := hm5
    go_wp2_with fail
    refine (HTx.out _ _ h5 (HBW.out.moved hm5)).mono ?_
    rintro e wk ⟨m, rv, rfl, ⟨b, hb, hO⟩, hmk, hpost⟩
    obtain ⟨Ar, cr, rfl, _⟩ := Own.slice hO
    have hmX := hmm.trans hmk
    have hmW := Aside0.mk ((Moved.of HB.out : Moved g w W).trans hmX)
    have hbb := Aside0.mk (show w.heap.size < b by have := HSZ.out; have := hmm.size; omega)
    have hout := Aside0.mk (fun (w' : World) (hXm : Moved w.heap.size wk w') =>
      show ScMk w g s R (.returned (.agg #[.int .i64 m.kind, .string m.name, .slice Ar m.raws.length cr, .bool m.empty, .string m.text])) w' from by
        refine ⟨m, _, rfl, ⟨b, by have := hbb.out; omega, hO.moved hXm hbb.out⟩, hmW.out.new hXm (Nat.le_refl _), ?_⟩
        rw [hfin.out]
        revert hpost
        split
        · rintro ⟨a', h'⟩; exact ⟨a', h'.other hXm (by omega)⟩
        · rintro ⟨e, h'⟩; exact ⟨e, h'.other hXm (by omega)⟩)
    clear hO hpost hmm hmk
    simp only [mkV]
    obtain ⟨r0, r1, r2, r3, r4, f0, f1, f2, f3, f4⟩ := cells5 (RG.out _ hmX)
    go_wp2
    obtain ⟨X, hX, hXg, hXm⟩ := out5 (RG.out _ hmX) (.int .i64 m.kind) (.string m.name) ((.slice Ar m.raws.length cr)) (.bool m.empty) (.string m.text)
    rw [← hX]
    clear hX r0 r1 r2 r3 r4 f0 f1 f2 f3 f4
    obtain ⟨p0, p1, p2, p3, p4, _⟩ := cells5 hXg
    refine bodyPost_ret (v := .agg #[.int .i64 m.kind, .string m.name, (.slice Ar m.raws.length cr), .bool m.empty, .string m.text]) ?hres rfl (hout.out _ hXm)
    case hres => simp [results, Tryz.results40, go_sem, p0, p1, p2, p3, p4]
end Go.Proofs.YtmfkdgdamepbcaaGreatDoor
end
section
/- MarkAt of the program. -/
namespace Go.Proofs.YtmfkdgdamepbcaaGreatDoor
open Go.RowKit Go.Lib
set_option linter.unusedVariables false
set_option linter.unusedSimpArgs false
set_option maxHeartbeats 0
set_option maxRecDepth 100000
theorem implMarkAt_calls {ok : Nat → Prop} (s : ByteArray) (a : Int) (A : Option Addr) (c : Nat) (l : List Dcl) (w : World) (hr : Row Kd.dcl w ok A l) (hs : s.size ≤ 1000000000) (ha0 : -9223372036854775808 ≤ a) (ha1 : a ≤ 9223372036854775807) (hz : ∀ d ∈ l, d.pre.size ≤ 1048576 ∧ d.uri.size ≤ 1048576) (hE : Env w) :
    Calls Tryz.prog 9 #[.string s, .int .i64 a, .slice A l.length c] w (MaOut w (markO s a l)) := by
  obtain ⟨R, hR⟩ : ∃ R, R = markO s a l := ⟨_, rfl⟩
  rw [← hR]
  obtain ⟨W, hW, HB0, hsz, HG⟩ := boxed w #[.int .i64 0, .string ⟨#[]⟩, .slice none 0 0, .bool false, .string ⟨#[]⟩] 29
  have HW := Aside0.mk hW
  have RG := Aside0.mk (fun W1 (hb : Below W.heap.size W W1) => (hb.block _ hsz).trans HG)
  have HB := Aside0.mk HB0
  have HSZ := Aside0.mk (show w.heap.size < W.heap.size from hsz)
  have HEn := Aside0.mk (implEntsOk_calls A c l W (hr.below HB0) hz (hE.below HB0))
  have HM := Aside0.mk (fun g a W0 W1 (hb : Below W.heap.size W W0) (h : Sc W1 g s a false) (B : Bs W0 g W1) => scMark_calls s a g A c l W0 W1 hs h B (hr.below (below_then HB0 hb)) hz)
  have HE := Aside0.mk (fun W1 (hb : Below W.heap.size W W1) => hE.below (below_then HB0 hb))
  have HIn := Aside0.mk (fun W => in_calls a 0 ((s.size : Int) - 1) W)
  clear hW HG HB0 hsz hr hE hz
  have hbW : Below W.heap.size W W := Below.refl _ _
  have hw1 : wrap64 ((s.size : Int) - 1) = (s.size : Int) - 1 := by unfold wrap64; omega
  by_cases hin : 0 ≤ a ∧ a < s.size
  case neg =>
    have hfin := Aside0.mk (show R = none by rw [hR, markO, if_neg (fun h => hin ⟨h.1, h.2.1⟩)])
    rw [show (decide ((0 : Int) ≤ a) && decide (a ≤ (s.size : Int) - 1)) = false by simp only [Bool.and_eq_false_iff, decide_eq_false_iff_not]; omega] at HIn
    clear hR hin
    go_enter Tryz.func9, Tryz.ntmps9
    go_upto_region 1 with fail
    rw [← HW.out]
    go_wp2_with fail
    refine (HIn.out _).mono ?_
    rintro e w1 ⟨rfl, rfl⟩
    obtain ⟨r0, r1, r2, r3, r4, f0, f1, f2, f3, f4⟩ := cells5 (RG.out _ hbW)
    go_wp2
    obtain ⟨X, hX, hXg, hXm⟩ := out5 (RG.out _ hbW) (.int .i64 0) (.string ⟨#[]⟩) ((.slice none 0 0)) (.bool false) (.string ⟨#[]⟩)
    rw [← hX]
    clear hX r0 r1 r2 r3 r4 f0 f1 f2 f3 f4
    obtain ⟨p0, p1, p2, p3, p4, _⟩ := cells5 hXg
    refine bodyPost_ret (v := .tuple #[.agg #[.int .i64 0, .string ⟨#[]⟩, (.slice none 0 0), .bool false, .string ⟨#[]⟩], .int .i64 (0), .bool false]) ?hres rfl (MaOut.none hfin.out (below_moved (below_then HB.out hbW) hXm (Nat.le_refl _)))
    case hres => simp [results, Tryz.results9, go_sem, p0, p1, p2, p3, p4]
  obtain ⟨n, rfl⟩ : ∃ n : Nat, a = n := ⟨a.toNat, by omega⟩
  have hn : n < s.size := by omega
  rw [show (decide ((0 : Int) ≤ (n : Int)) && decide ((n : Int) ≤ (s.size : Int) - 1)) = true by simp only [Bool.and_eq_true, decide_eq_true_eq]; omega] at HIn
  cases he : entsOk l with
  | false =>
    have hfin := Aside0.mk (show R = none by rw [hR, markO, if_neg (by rw [he]; simp)])
    rw [he] at HEn
    clear hR he hin
    go_enter Tryz.func9, Tryz.ntmps9
    go_upto_region 1 with fail
    rw [← HW.out]
    go_wp2_with fail
    refine (HIn.out _).mono ?_
    rintro e w1 ⟨rfl, rfl⟩
    go_wp2_with fail
    refine (HEn.out).mono ?_
    rintro e w1 ⟨rfl, hb1⟩
    obtain ⟨r0, r1, r2, r3, r4, f0, f1, f2, f3, f4⟩ := cells5 (RG.out _ hb1)
    go_wp2
    obtain ⟨X, hX, hXg, hXm⟩ := out5 (RG.out _ hb1) (.int .i64 0) (.string ⟨#[]⟩) ((.slice none 0 0)) (.bool false) (.string ⟨#[]⟩)
    rw [← hX]
    clear hX r0 r1 r2 r3 r4 f0 f1 f2 f3 f4
    obtain ⟨p0, p1, p2, p3, p4, _⟩ := cells5 hXg
    refine bodyPost_ret (v := .tuple #[.agg #[.int .i64 0, .string ⟨#[]⟩, (.slice none 0 0), .bool false, .string ⟨#[]⟩], .int .i64 (0), .bool false]) ?hres rfl (MaOut.none hfin.out (below_moved (below_then HB.out hb1) hXm (Nat.le_refl _)))
    case hres => simp [results, Tryz.results9, go_sem, p0, p1, p2, p3, p4]
  | true =>
  have HR := Aside0.mk (show R = (mkO s n l).bind fun q => if textOk q.1.text = true then some q else none by rw [hR, markO, if_pos ⟨by omega, by omega, he⟩, Int.toNat_natCast])
  rw [he] at HEn
  clear hR he hin
  go_enter Tryz.func9, Tryz.ntmps9
  go_upto_region 1 with fail
  rw [← HW.out]
  go_wp2_with fail
  refine (HIn.out _).mono ?_
  rintro e w1 ⟨rfl, rfl⟩
  go_wp2_with fail
  refine (HEn.out).mono ?_
  rintro e w1 ⟨rfl, hb1⟩
  obtain ⟨W2, hW2, HB2, hsz2, HG2⟩ := boxed w1 #[.string s, .int .i64 (n : Nat), .bool false] 75
  have hS2 : Sc W2 w1.heap.size s n false := ⟨HG2, by omega⟩
  have hBs : Bs w1 w1.heap.size W2 := ⟨HE.out _ hb1, HB2, Nat.le_refl _⟩
  have hb2 := below_then hb1 HB2
  have HW2 := Aside0.mk hW2
  have hgW := hb1.size
  clear hW2 HG2
  go_upto_region 4 with fail
  rw [← HW2.out]
  obtain ⟨g, hge⟩ : ∃ g, g = w1.heap.size := ⟨_, rfl⟩
  rw [← hge] at hS2 hBs hgW hsz2 ⊢
  clear hge
  go_wp2_with fail
  refine (HM.out g n w1 W2 hb1 hS2 hBs).mono ?_
  rintro e w3 ⟨m, rv, rfl, ⟨b, hb, hO⟩, hm3, hpost⟩
  obtain ⟨Ar, cr, rfl, _⟩ := Own.slice hO
  have hb3 := below_moved hb2 hm3 hgW
  have HB3 := Aside0.mk hb3.size
  have hwb := Aside0.mk (show w.heap.size < b by have := HSZ.out; have := hb2.size; omega)
  simp only [mkV]
  obtain ⟨W4, hW4, HB4, hsz4, HG4⟩ := boxed w3 #[.int .i64 m.kind, .string m.name, .slice Ar m.raws.length cr, .bool m.empty, .string m.text] 29
  have hO4 := Aside0.mk (hO.below HB4)
  have hb4 := below_then hb3 HB4
  have HW4 := Aside0.mk hW4
  have HG4 := Aside0.mk HG4
  clear hW4 hb hO hm3 hS2 hBs hb2 hb3
  obtain ⟨m0, m1, m2, m3, m4, n0, n1, n2, n3, n4⟩ := cells5 HG4.out
  cases hmk : mkO s n l with
  | none =>
    have hfin := Aside0.mk (show R = none by rw [HR.out, hmk]; rfl)
    rw [hmk] at hpost
    obtain ⟨a4, hS3⟩ := hpost
    have hS4 := hS3.below HB4
    clear hmk HR hS3 HB4
    obtain ⟨c0, c1, c2, _, _⟩ := hS4.cells
    go_upto_region 5 with fail
    rw [← HW4.out]
    obtain ⟨r0, r1, r2, r3, r4, f0, f1, f2, f3, f4⟩ := cells5 (RG.out _ hb4)
    go_wp2
    obtain ⟨X, hX, hXg, hXm⟩ := out5 (RG.out _ hb4) (.int .i64 0) (.string ⟨#[]⟩) ((.slice none 0 0)) (.bool false) (.string ⟨#[]⟩)
    rw [← hX]
    clear hX r0 r1 r2 r3 r4 f0 f1 f2 f3 f4
    obtain ⟨p0, p1, p2, p3, p4, _⟩ := cells5 hXg
    refine bodyPost_ret (v := .tuple #[.agg #[.int .i64 0, .string ⟨#[]⟩, (.slice none 0 0), .bool false, .string ⟨#[]⟩], .int .i64 (0), .bool false]) ?hres rfl (MaOut.none hfin.out (below_moved (below_then HB.out hb4) hXm (Nat.le_refl _)))
    case hres => simp [results, Tryz.results9, go_sem, p0, p1, p2, p3, p4]
  | some q =>
    obtain ⟨m', k⟩ := q
    rw [hmk] at hpost
    obtain ⟨rfl, hS3⟩ : m = m' ∧ Sc w3 g s k false := hpost
    have HR := Aside0.mk (show R = if textOk m.text = true then some (m, k) else none by rw [HR.out, hmk]; rfl)
    have hms : m.text.size ≤ 1099511627776 := by have := mk_size (by omega) hmk; omega
    have hS4 := hS3.below HB4
    clear hmk hS3 HB4
    obtain ⟨c0, c1, c2, _, _⟩ := hS4.cells
    have HT := Aside0.mk (implTextOk_calls m.text W4 hms (HE.out _ hb4))
    go_upto_region 5 with fail
    rw [← HW4.out]
    go_wp2_with fail
    refine (HT.out).mono ?_
    rintro e w5 ⟨rfl, hb5⟩
    have hO5 := Aside0.mk (hO4.out.below hb5)
    have HG5 := (hb5.block _ hsz4).trans HG4.out
    have hS5 := hS4.below hb5
    have hb5 := below_then hb4 hb5
    clear m0 m1 m2 m3 m4 n0 n1 n2 n3 n4 c0 c1 c2 hS4
    obtain ⟨m0, m1, m2, m3, m4, n0, n1, n2, n3, n4⟩ := cells5 HG5
    clear HG5
    cases ht : textOk m.text with
    | false =>
      have hfin := Aside0.mk (show R = none by rw [HR.out, ht]; rfl)
      clear ht HR
      obtain ⟨r0, r1, r2, r3, r4, f0, f1, f2, f3, f4⟩ := cells5 (RG.out _ hb5)
      go_wp2
      obtain ⟨X, hX, hXg, hXm⟩ := out5 (RG.out _ hb5) (.int .i64 0) (.string ⟨#[]⟩) ((.slice none 0 0)) (.bool false) (.string ⟨#[]⟩)
      rw [← hX]
      clear hX r0 r1 r2 r3 r4 f0 f1 f2 f3 f4
      obtain ⟨p0, p1, p2, p3, p4, _⟩ := cells5 hXg
      refine bodyPost_ret (v := .tuple #[.agg #[.int .i64 0, .string ⟨#[]⟩, (.slice none 0 0), .bool false, .string ⟨#[]⟩], .int .i64 (0), .bool false]) ?hres rfl (MaOut.none hfin.out (below_moved (below_then HB.out hb5) hXm (Nat.le_refl _)))
      case hres => simp [results, Tryz.results9, go_sem, p0, p1, p2, p3, p4]
    | true =>
      have hfin := Aside0.mk (show R = some (m, k) by rw [HR.out, ht]; rfl)
      clear ht HR
      obtain ⟨c0, c1, c2, _, _⟩ := hS5.cells
      have hS5 := Aside0.mk hS5
      obtain ⟨r0, r1, r2, r3, r4, f0, f1, f2, f3, f4⟩ := cells5 (RG.out _ hb5)
      go_upto_region 7 with fail
      have e1 : ¬ g = w.heap.size := by have := HSZ.out; omega
      have e2 : ¬ w.heap.size = g := fun e => e1 e.symm
      have e3 : ¬ w3.heap.size = w.heap.size := by have := HSZ.out; have := HB3.out; omega
      have e4 : ¬ w.heap.size = w3.heap.size := fun e => e3 e.symm
      go_region
      all_goals
        obtain ⟨X, hX, hXg, hXm⟩ := out5 (RG.out _ hb5) (.int .i64 m.kind) (.string m.name) (.slice Ar m.raws.length cr) (.bool m.empty) (.string m.text)
        rw [← hX]
        clear hX r0 r1 r2 r3 r4 f0 f1 f2 f3 f4 m0 m1 m2 m3 m4 n0 n1 n2 n3 n4 c0 c1 c2
        have hXm := hXm.drew
        have hXg : X.drew.heap[w.heap.size]? = some (.cells #[.int .i64 m.kind, .string m.name, .slice Ar m.raws.length cr, .bool m.empty, .string m.text] 29 (0, 0)) := hXg
        generalize X.drew = Y at hXm hXg ⊢
        obtain ⟨p0, p1, p2, p3, p4, _⟩ := cells5 hXg
        go_wp2
        refine bodyPost_ret (v := .tuple #[.agg #[.int .i64 m.kind, .string m.name, .slice Ar m.raws.length cr, .bool m.empty, .string m.text], .int .i64 k, .bool true]) ?hres rfl (MaOut.some hfin.out ⟨b, (by have := hwb.out; omega), hO5.out.moved hXm hwb.out⟩ (below_moved (below_then HB.out hb5) hXm (Nat.le_refl _)))
        case hres => simp [results, Tryz.results9, go_sem, p0, p1, p2, p3, p4]
end Go.Proofs.YtmfkdgdamepbcaaGreatDoor
end
