/- Joined: DfI, ItI, HdI. -/
import Derived.Test.YtmfkdgdamepbcaaGreatDoorHdE
import Derived.Test.YtmfkdgdamepbcaaGreatDoorHdA
import Derived.Test.YtmfkdgdamepbcaaGreatDoorHdD
section
/- The program's heads: def. -/
namespace Go.Proofs.YtmfkdgdamepbcaaGreatDoor
open Go.RowKit Go.Lib
set_option linter.unusedVariables false
set_option linter.unusedSimpArgs false
set_option maxHeartbeats 0
set_option maxRecDepth 100000
theorem sb_set2 {w : World} {gd : Nat} {x0 x1 x2 x3 x4 : Value} {T : TypeId} (h : w.heap[gd]? = some (.cells #[x0, x1, x2, x3, x4] T (0, 0))) (v : Value) : (w.setCell ⟨gd, 2, none⟩ v).heap[gd]? = some (.cells #[x0, x1, v, x3, x4] T (0, 0)) := heap_setCell_same _ gd 2 _ _ _ h
theorem sb_set3 {w : World} {gd : Nat} {x0 x1 x2 x3 x4 : Value} {T : TypeId} (h : w.heap[gd]? = some (.cells #[x0, x1, x2, x3, x4] T (0, 0))) (v : Value) : (w.setCell ⟨gd, 3, none⟩ v).heap[gd]? = some (.cells #[x0, x1, x2, v, x4] T (0, 0)) := heap_setCell_same _ gd 3 _ _ _ h
theorem sb_set4 {w : World} {gd : Nat} {x0 x1 x2 x3 x4 : Value} {T : TypeId} (h : w.heap[gd]? = some (.cells #[x0, x1, x2, x3, x4] T (0, 0))) (v : Value) : (w.setCell ⟨gd, 4, none⟩ v).heap[gd]? = some (.cells #[x0, x1, x2, x3, v] T (0, 0)) := heap_setCell_same _ gd 4 _ _ _ h
def DfI (n0 base r g : Nat) (s name : ByteArray) (w0 : World) (vE : Value) (es : List Dcl) (ds : List Df) (o : Option (Df × Nat)) (w' : World) : Prop :=
  ∃ (a : Nat) (q : Bool) (vD : Value) (ds' : List Df), SH n0 base r g s name w0 w' a q vE vD es ds' ∧ ((q = false ∧ ∃ d, o = some (d, a) ∧ ds' = ds ++ [d]) ∨ (q = true ∧ o = none))
theorem scDef_calls (n0 base r g : Nat) (s name el : ByteArray) (k : Nat) (vE vD : Value) (es : List Dcl) (ds : List Df) (w0 w : World) (hs : s.size ≤ 1048576) (hes : entsOk es = true) (hds : ds.length ≤ 6) (h : SH n0 base r g s name w0 w k false vE vD es ds) :
    Calls Tryz.prog 131 #[.pointer (some ⟨r, 0, none⟩), .string el, .pointer (some ⟨g, 0, none⟩)] w fun e w' => e = .returned (.tuple #[]) ∧ DfI n0 base r g s name w0 vE es ds (defO s k el es ds) w' := by
  have hk : k ≤ s.size := h.sc.le
  obtain ⟨A, c, hvE, hc, _⟩ := h.hd.ents
  have hel := (ents_le hes).1
  obtain ⟨i, hi, hz0, hz1, hz2⟩ := info_parts Tryz.info_Def
  have hnz : (.agg #[.string ⟨#[]⟩, .string ⟨#[]⟩, .bool false, .bool false, .string ⟨#[]⟩] : Value).cells.size = 5 := rfl
  have HES := Aside0.mk hes
  have Hz2 := Aside0.mk hz2
  clear hz2
  subst hvE
  obtain ⟨⟨n, a2, q2⟩, hp2⟩ : ∃ p, p = nameF s k false := ⟨_, rfl⟩
  have HNm := Aside0.mk (scName_calls s k r false w (by omega) h.sc h.here)
  rw [← hp2] at HNm
  dsimp only at HNm
  obtain ⟨a3, ha3⟩ : ∃ x, x = blanksN s a2 := ⟨_, rfl⟩
  obtain ⟨q3, hq3⟩ : ∃ x, x = (q2 || !decide (a2 < a3)) := ⟨_, rfl⟩
  have HG1 := Aside0.mk (fun W (h : Sc W r s a2 q2) => scGap_calls s a2 r q2 W (by omega) h)
  rw [← ha3, ← hq3] at HG1
  obtain ⟨⟨rr, a4⟩, hp4⟩ : ∃ p, p = takeF s ⟨#[67, 68, 65, 84, 65]⟩ a3 q3 := ⟨_, rfl⟩
  have HT4 := Aside0.mk (fun W (h : Sc W r s a3 q3) => scTake_calls s ⟨#[67, 68, 65, 84, 65]⟩ a3 r q3 W (by omega) h)
  rw [← hp4] at HT4
  dsimp only at HT4
  have HM5 := Aside0.mk (fun W (h : Sc W r s a4 q3) => scMust_calls s ⟨#[73, 68]⟩ a4 r q3 W (by omega) h)
  obtain ⟨⟨a5, q5⟩, hp5⟩ : ∃ p, p = (if rr = true then (a4, q3) else mustF s ⟨#[73, 68]⟩ a4 q3) := ⟨_, rfl⟩
  obtain ⟨a6, ha6⟩ : ∃ x, x = blanksN s a5 := ⟨_, rfl⟩
  obtain ⟨q6, hq6⟩ : ∃ x, x = (q5 || !decide (a5 < a6)) := ⟨_, rfl⟩
  have HG2 := Aside0.mk (fun W (h : Sc W r s a5 q5) => scGap_calls s a5 r q5 W (by omega) h)
  rw [← ha6, ← hq6] at HG2
  obtain ⟨⟨im, a7⟩, hp7⟩ : ∃ p, p = takeF s ⟨#[35, 73, 77, 80, 76, 73, 69, 68]⟩ a6 q6 := ⟨_, rfl⟩
  have HT7 := Aside0.mk (fun W (h : Sc W r s a6 q6) => scTake_calls s ⟨#[35, 73, 77, 80, 76, 73, 69, 68]⟩ a6 r q6 W (by omega) h)
  rw [← hp7] at HT7
  dsimp only at HT7
  obtain ⟨⟨v, a8, q8⟩, hp8⟩ : ∃ p, p = quotF s a7 (q6 || !rr) := ⟨_, rfl⟩
  have HQ := Aside0.mk (fun W (h : Sc W r s a7 (q6 || !rr)) (B : Bs w0 r W) => scQuoted_calls s a7 r (q6 || !rr) w0 W (by omega) h B)
  have hvz := fun h => quot_size (s := s) (a := a7) (q := (q6 || !rr)) h
  rw [← hp8] at HQ hvz
  dsimp only at HQ hvz
  obtain ⟨⟨x, q9⟩, hp9⟩ : ∃ p, p = expF (spacedB v) es q8 := ⟨_, rfl⟩
  have HX := Aside0.mk (fun W A c (h : Sc W r s a8 q8) (hr : Row Kd.dcl W (fun k => base ≤ k) A es) (hv : (spacedB v).size ≤ 1000000000) (hE : Env W) => scExpanded_calls s (spacedB v) a8 r q8 A c es W h hr hv (ents_le hes).2 hE)
  rw [← hp9] at HX
  dsimp only at HX
  obtain ⟨o, ho⟩ : ∃ o, o = defO s k el es ds := ⟨_, rfl⟩
  have hlawi := fun (e : im = false) q10 => def_i (s := s) (el := el) (n := n) (v := v) (x := x) (k := k) (a2 := a2) (a4 := a4) (a5 := a5) (a7 := a7) (a8 := a8) (es := es) (ds := ds) (r := rr) (i := im) (q2 := q2) (q3 := q3) (q5 := q5) (q6 := q6) (q7 := (q6 || !rr)) (q8 := q8) (q9 := q9) (q10 := q10) hp2 (by rw [hq3, ha3]) (by rw [← ha3]; exact hp4) hp5 (by rw [hq6, ha6]) (by rw [← ha6]; exact hp7) e hp8 hp9
  have hlawj := fun (e : im = true) q10 => def_j (s := s) (el := el) (n := n) (k := k) (a2 := a2) (a4 := a4) (a5 := a5) (a7 := a7) (es := es) (ds := ds) (r := rr) (i := im) (q2 := q2) (q3 := q3) (q5 := q5) (q6 := q6) (q10 := q10) hp2 (by rw [hq3, ha3]) (by rw [← ha3]; exact hp4) hp5 (by rw [hq6, ha6]) (by rw [← ha6]; exact hp7) e
  rw [← ho] at hlawi hlawj ⊢
  replace hlawi := Aside0.mk hlawi
  replace hlawj := Aside0.mk hlawj
  replace hp5 := Aside0.mk hp5
  obtain ⟨sv, hsv⟩ : ∃ y, y = spacedB v := ⟨_, rfl⟩
  have hsz : v.size ≤ 1000000000 → sv.size ≤ 1000000000 := fun h => by rw [hsv, spaced_size]; exact h
  have HSp := Aside0.mk (fun W (h : v.size ≤ 1000000000) => spaced_calls v W h)
  rw [← hsv] at HSp HX
  clear ho hp2 hq3 ha3 hp4 hq6 ha6 hp7 hp8 hp9 hes hsv
  go_enter Tryz.func131, Tryz.ntmps131
  go_wp2_with fail
  refine (HNm.out).mono ?_
  rintro e w1 ⟨rfl, r1, m1⟩
  have hB := h.step r1 m1
  clear r1 m1 h HNm
  obtain ⟨gd, hgd⟩ : ∃ x, x = w1.heap.size := ⟨_, rfl⟩
  replace hB := SB.new hB (.cells #[.string el, .string n, .bool false, .bool false, .string ⟨#[]⟩] 54 (0, 0))
  obtain ⟨W1, hW1⟩ : ∃ W, W = w1.alloc (.cells #[.string el, .string n, .bool false, .bool false, .string ⟨#[]⟩] 54 (0, 0)) := ⟨_, rfl⟩
  rw [← hW1] at hB
  have HW1 := Aside0.mk hW1
  clear hW1
  go_upto_region 1 with fail
  rw [← HW1.out]
  rw [← hgd] at hB ⊢
  clear hgd
  go_wp2_with fail
  refine (HG1.out _ hB.sh.sc).mono ?_
  rintro e w3 ⟨rfl, r3, m3⟩
  replace hB := hB.step r3 m3
  clear r3 m3
  go_wp2_with fail
  refine (HT4.out _ hB.sh.sc).mono ?_
  rintro e w4 ⟨rfl, r4, m4⟩
  replace hB := hB.step r4 m4
  clear r4 m4
  obtain ⟨d0, d1, d2, d3, d4, g0, g1, g2, g3, g4⟩ := cells5 hB.box
  go_upto_region 3 with fail
  obtain ⟨X4, hX4⟩ : ∃ X, X = w4.setCell ⟨gd, 2, none⟩ (.bool (!rr)) := ⟨_, rfl⟩
  replace hB := hB.put (sb_set2 hB.box (.bool (!rr)))
  rw [← hX4] at hB ⊢
  clear hX4 d0 d1 d2 d3 d4 g0 g1 g2 g3 g4
  obtain ⟨d0, d1, d2, d3, d4, g0, g1, g2, g3, g4⟩ := cells5 hB.box
  go_upto_if 20 with fail
  clear d0 d1 d2 d3 d4 g0 g1 g2 g3 g4
  go_cut [] (fun wx => SB n0 base r g gd s name w0 wx a5 q5 (.slice A es.length c) vD es ds (.cells #[.string el, .string n, .bool (!rr), .bool false, .string ⟨#[]⟩] 54 (0, 0)))
  case first =>
    cases rr with
    | true =>
      have e5 := hp5.out
      rw [if_pos rfl] at e5
      injection e5 with e6 e7
      subst e6 e7
      replace hB := Aside0.mk hB
      go_wp2_with fail
      go_meet
      exact hB.out
    | false =>
      have e5 := hp5.out
      rw [if_neg (by decide)] at e5
      have HM := Aside0.mk (HM5.out _ hB.sh.sc)
      rw [← e5] at HM
      dsimp only at HM
      clear e5
      go_wp2_with fail
      refine (HM.out).mono ?_
      rintro e w5 ⟨rfl, r5, m5⟩
      replace hB := Aside0.mk (hB.step r5 m5)
      clear r5 m5 HM
      go_wp2_with fail
      go_meet
      exact hB.out
  case rest =>
  clear hB
  replace hB := hcut
  clear hcut
  go_wp2_with fail
  refine (HG2.out _ hB.sh.sc).mono ?_
  rintro e w6 ⟨rfl, r6, m6⟩
  replace hB := hB.step r6 m6
  clear r6 m6
  go_wp2_with fail
  refine (HT7.out _ hB.sh.sc).mono ?_
  rintro e w7 ⟨rfl, r7, m7⟩
  replace hB := hB.step r7 m7
  clear r7 m7
  go_upto_if 27 with fail
  go_cut [] (fun wx => ∃ (a : Nat) (q has : Bool) (val : ByteArray), SB n0 base r g gd s name w0 wx a q (.slice A es.length c) vD es ds (.cells #[.string el, .string n, .bool (!rr), .bool has, .string val] 54 (0, 0)) ∧
    Aside (∀ q10, q10 = (q || hasDf ds el n || !decide (ds.length + 1 ≤ 6)) → (q10 = false ∧ o = some (⟨el, n, !rr, has, val⟩, a)) ∨ (q10 = true ∧ o = none)))
  case first =>
    cases im with
    | true =>
      have hfin := Aside0.mk (fun q10 h => hlawj.out rfl q10 h)
      replace hB := Aside0.mk hB
      go_wp2_with fail
      go_meet
      exact ⟨_, _, _, _, hB.out, hfin.out⟩
    | false =>
      have hfin := Aside0.mk (fun q10 h => hlawi.out rfl q10 h)
      obtain ⟨d0, d1, d2, d3, d4, g0, g1, g2, g3, g4⟩ := cells5 hB.box
      go_upto_region 8 with fail
      obtain ⟨X7, hX7⟩ : ∃ X, X = w7.setCell ⟨gd, 3, none⟩ (.bool true) := ⟨_, rfl⟩
      replace hB := hB.put (sb_set3 hB.box (.bool true))
      rw [← hX7] at hB ⊢
      clear hX7 d0 d1 d2 d3 d4 g0 g1 g2 g3 g4
      go_cut [] (fun wx => SB n0 base r g gd s name w0 wx a7 (q6 || !rr) (.slice A es.length c) vD es ds (.cells #[.string el, .string n, .bool (!rr), .bool true, .string ⟨#[]⟩] 54 (0, 0)))
      case first =>
        obtain ⟨d0, d1, d2, d3, d4, g0, g1, g2, g3, g4⟩ := cells5 hB.box
        obtain ⟨c0, c1, c2, f1, f2⟩ := hB.sh.sc.cells
        cases q6 with
        | true =>
          have h9 := Aside0.mk (hB.setQ true)
          clear hB
          go_wp2_with fail
          go_meet
          exact h9.out
        | false =>
          have h9 := Aside0.mk (hB.setQ (!rr))
          clear hB
          go_wp2_with fail
          go_meet
          exact h9.out
      case rest =>
      clear hB
      replace hB := hcut
      clear hcut
      obtain ⟨wX, hwX⟩ : ∃ x, x = wc := ⟨_, rfl⟩
      rw [← hwX] at hB ⊢
      clear hwX
      have hvv : v.size ≤ 1000000000 := by have := hvz hB.sh.sc.le; omega
      have hsvv := hsz hvv
      have HST := Aside0.mk (fun W (hb : Below wX.heap.size wX W) => hB.below hb)
      obtain ⟨_, d1, _⟩ := hB.sh.hd.cells
      clear hB
      go_upto_region 9 with fail
      go_region_with (first
        | (go_at_call 116; refine (HQ.out _ (HST.out _ (below_drew (Below.refl _ _))).sh.sc (HST.out _ (below_drew (Below.refl _ _))).sh.bs).mono ?_; rintro e w9 ⟨rfl, r9, m9⟩
           have h9 := (HST.out _ (below_drew (Below.refl _ _))).step r9 m9
           have d1' := h9.sh.hd.cells.2.1)
        | (go_at_call 115; refine (HSp.out _ hvv).mono ?_; rintro e w10 ⟨rfl, hb10⟩
           have h10 := h9.below hb10
           have d1'' := h10.sh.hd.cells.2.1)
        | (go_at_call 114; refine (HX.out _ A c h10.sh.sc (by obtain ⟨A', c', hv', _, hr'⟩ := h10.sh.hd.ents; cases hv'; exact hr') hsvv h10.sh.here).mono ?_; rintro e w11 ⟨rfl, r11, m11⟩
           have h11 := h10.step r11 m11
           obtain ⟨b0, b1, b2, b3, b4, fb0, fb1, fb2, fb3, fb4⟩ := cells5 h11.box))
      all_goals
        have h12 := Aside0.mk (h11.put (sb_set4 h11.box (.string x)))
        go_wp2_with fail
        go_meet
        exact ⟨_, _, _, _, h12.out, hfin.out⟩
  case rest =>
  clear hB
  obtain ⟨a, q, has, val, hB, hlaw⟩ := hcut
  replace hlaw := Aside0.mk hlaw
  obtain ⟨wX, hwX⟩ : ∃ x, x = wc := ⟨_, rfl⟩
  rw [← hwX] at hB ⊢
  clear hwX
  obtain ⟨th, hth⟩ : ∃ b, b = hasDf ds el n := ⟨_, rfl⟩
  rw [← hth] at hlaw
  replace hth := Aside0.mk hth
  obtain ⟨AD, cD, hvD, hcD, hrD⟩ := hB.sh.hd.defs
  subst hvD
  go_upto_region 10 with fail
  go_cut [7, 8] (fun p7 p8 wx => p8 = .bool th ∧ SB n0 base r g gd s name w0 wx a q (.slice A es.length c) (.slice AD ds.length cD) es ds (.cells #[.string el, .string n, .bool (!rr), .bool has, .string val] 54 (0, 0)))
  case first =>
    obtain ⟨d0, d1, d2, d3, d4, g0, g1, g2, g3, g4⟩ := cells5 hB.box
    obtain ⟨e0, e1, e2, _⟩ := hB.sh.hd.cells
    have HDO := Aside0.mk (fun W (hb : Below wX.heap.size wX W) => (implDefOf_calls ds AD cD el n W (hrD.below hb)).mono (fun _ _ h => And.intro h.1 (And.intro (below_then hb h.2) h.2)))
    obtain ⟨x24, hx24⟩ := dfV_is (ds.find? (dfIs el n))
    rw [← hasDf_find] at hx24
    rw [hx24, ← hth.out] at HDO
    have HX := Aside0.mk (fun W (hb : Below wX.heap.size wX W) => hB.below hb)
    have HKS := Aside0.mk (fun W (hb : Below wX.heap.size wX W) => show Below wX.heap.size wX W ∧ W.cell? ⟨g, 2, none⟩ = some (.slice AD ds.length cD) ∧ W.cell? ⟨gd, 0, none⟩ = some (.string el) ∧ W.cell? ⟨gd, 1, none⟩ = some (.string n) from
      ⟨hb, (hB.below hb).sh.hd.cells.2.2.1, (cells5 (hB.below hb).box).1, (cells5 (hB.below hb).box).2.1⟩)
    clear hx24 hrD hB
    go_region_held3 (fun w' => Below wX.heap.size wX w' ∧ w'.cell? ⟨g, 2, none⟩ = some (.slice AD ds.length cD) ∧ w'.cell? ⟨gd, 0, none⟩ = some (.string el) ∧ w'.cell? ⟨gd, 1, none⟩ = some (.string n))
      (refine HKS.out _ ?_ <;> (first | assumption | exact below_drew (Below.refl _ _) | exact below_drew (below_alloc (Below.refl _ _) _) | exact below_alloc (below_drew (Below.refl _ _)) _ | exact below_alloc hb24 _ | exact below_moved hb24 (((((Moved.refl _ _).set).set).set).set).set (Nat.le_refl _)))
      (first
        | (go_at_call 26; refine (HDO.out _ (by first | exact below_drew (Below.refl _ _) | exact below_drew (below_alloc (Below.refl _ _) _))).mono ?_; rintro e w24 ⟨rfl, hb24, hb24'⟩
           first
             | (have hz24 := zero_box wX hb24' rfl
                obtain ⟨y0, y1, y2, y3, y4, z0, z1, z2, z3, z4⟩ := cells5 hz24)
             | skip
           simp only [dfG])
        | fail)
    all_goals
      go_wp2_with fail
      go_meet
      exact ⟨rfl, HX.out _ (by first | exact below_alloc hb24 _ | exact below_moved hb24 (((((Moved.refl _ _).set).set).set).set).set (Nat.le_refl _))⟩
  case rest =>
  clear hB hrD
  obtain ⟨p24, hB⟩ := hcut
  subst p24
  obtain ⟨wY, hwY⟩ : ∃ x, x = wc := ⟨_, rfl⟩
  rw [← hwY] at hB ⊢
  clear hwY
  obtain ⟨d0, d1, d2, d3, d4, g0, g1, g2, g3, g4⟩ := cells5 hB.box
  obtain ⟨e0, e1, e2, k0, k1, k2⟩ := hB.sh.hd.cells
  have hBz : SB n0 base r g gd s name w0 (wY.alloc (.cells #[.string el, .string n, .bool (!rr), .bool has, .string val] 54)) a q (.slice A es.length c) (.slice AD ds.length cD) es ds (.cells #[.string el, .string n, .bool (!rr), .bool has, .string val] 54 (0, 0)) := hB.below (below_alloc (Below.refl _ _) _)
  obtain ⟨_, _, v5, _⟩ := hBz.sh.hd.cells
  have hBw : Below wY.heap.size wY ((wY.alloc (.cells #[.string el, .string n, .bool (!rr), .bool has, .string val] 54)).drew) := below_drew (below_alloc (Below.refl _ _) _)
  have hnews := Aside0.mk (show ∀ j u, ([.string el, .string n, .bool (!rr), .bool has, .string val] : List Value)[j]? = some u → ((wY.alloc (.cells #[.string el, .string n, .bool (!rr), .bool has, .string val] 54)).drew).cell? ((⟨wY.heap.size, 0, none⟩ : Addr).add j) = some u from df_news wY (Df.mk el n (!rr) has val) 54)
  have hown := Aside0.mk (own_below hB.sh.hd.hD hBw)
  have h11 := Aside0.mk (hB.sh.below hBw)
  have hlw := Aside0.mk (Nat.le_trans hB.sh.hd.le hBw.size)
  have h1c := Aside0.mk (show ∀ u ∈ ([.string el, .string n, .bool (!rr), .bool has, .string val] : List Value), u.oneCell' = true from df_one (Df.mk el n (!rr) has val))
  have hlm := Aside0.mk (show ds.length + 1 ≤ maxLen ∧ (ds.length + 1) * 56 ≤ 140737488355328 from ⟨by unfold maxLen; omega, by omega⟩)
  clear hBz hBw hB
  go_upto_region 11 with fail
  go_region_law (first
    | (refine step_app_in rfl (.tmp 66) (.tmp 68) 46 rfl base 54 i (.agg #[.string ⟨#[]⟩, .string ⟨#[]⟩, .bool false, .bool false, .string ⟨#[]⟩]) 5 56 Tryz.underlying46 hi hz0 hz1 Hz2.out hnz (by decide) (.slice AD ds.length cD) ds.length (ds.flatMap Df.cells) rfl hown.out ⟨wY.heap.size, 0, none⟩ 1 1 [.string el, .string n, .bool (!rr), .bool has, .string val] rfl rfl hnews.out h1c.out hlm.out.1 hlm.out.2 hlw.out ?_
       intro v' w25 hown3 hgrow3 hat3
       obtain ⟨p1, p2⟩ := h11.out.pD hgrow3
       have h12 := h11.out.addD (d := ⟨el, n, !rr, has, val⟩) hown3 hgrow3 hat3
       obtain ⟨Av, cv, hv', _⟩ := h12.hd.defs
       rw [List.length_append, List.length_singleton] at hv'
       subst hv'
       replace h12 := Aside0.mk h12
       clear hown3 hgrow3 hat3))
  all_goals
    obtain ⟨X, hX⟩ : ∃ X, X = w25.setCell ⟨g, 2, none⟩ (.slice Av (ds.length + 1) cv) := ⟨_, rfl⟩
    replace h12 := h12.out
    rw [← hX] at h12 ⊢
    clear hX p1 p2 d0 d1 d2 d3 d4 g0 g1 g2 g3 g4 e0 e1 e2 k0 k1 k2 v5
    obtain ⟨_, _, e2, _⟩ := h12.hd.cells
    obtain ⟨c0, c1, c2, f1, f2⟩ := h12.sc.cells
    cases q with
    | true =>
      have hfin := Aside0.mk (show DfI n0 base r g s name w0 (.slice A es.length c) es ds o (X.setCell ⟨r, 2, none⟩ (.bool true)) from
        ⟨a, true, _, _, h12.setQ true, by
          rcases hlaw.out true (by rfl) with ⟨e, e2⟩ | ⟨e, e2⟩
          · exact .inl ⟨e, _, e2, rfl⟩
          · exact .inr ⟨e, e2⟩⟩)
      clear h12
      go_wp2
      go_end0
      exact ⟨rfl, hfin.out⟩
    | false =>
      cases th with
      | true =>
        have hfin := Aside0.mk (show DfI n0 base r g s name w0 (.slice A es.length c) es ds o (X.setCell ⟨r, 2, none⟩ (.bool true)) from
          ⟨a, true, _, _, h12.setQ true, by
            rcases hlaw.out true (by rfl) with ⟨e, e2⟩ | ⟨e, e2⟩
            · exact .inl ⟨e, _, e2, rfl⟩
            · exact .inr ⟨e, e2⟩⟩)
        clear h12
        go_wp2
        go_end0
        exact ⟨rfl, hfin.out⟩
      | false =>
        by_cases h6 : ds.length + 1 ≤ 6
        · have h6i : ¬ ((6 : Int) < (ds.length : Int) + 1) := by omega
          have hfin := Aside0.mk (show DfI n0 base r g s name w0 (.slice A es.length c) es ds o (X.setCell ⟨r, 2, none⟩ (.bool false)) from
            ⟨a, false, _, _, h12.setQ false, by
              rcases hlaw.out false (by (rw [decide_eq_true h6]; rfl)) with ⟨e, e2⟩ | ⟨e, e2⟩
              · exact .inl ⟨e, _, e2, rfl⟩
              · exact .inr ⟨e, e2⟩⟩)
          clear h12
          go_wp2
          go_end0
          exact ⟨rfl, hfin.out⟩
        · have h6i : ((6 : Int) < (ds.length : Int) + 1) := by omega
          have hfin := Aside0.mk (show DfI n0 base r g s name w0 (.slice A es.length c) es ds o (X.setCell ⟨r, 2, none⟩ (.bool true)) from
            ⟨a, true, _, _, h12.setQ true, by
              rcases hlaw.out true (by (rw [decide_eq_false h6]; rfl)) with ⟨e, e2⟩ | ⟨e, e2⟩
              · exact .inl ⟨e, _, e2, rfl⟩
              · exact .inr ⟨e, e2⟩⟩)
          clear h12
          go_wp2
          go_end0
          exact ⟨rfl, hfin.out⟩
end Go.Proofs.YtmfkdgdamepbcaaGreatDoor
end
section
/- The program's heads: attlist, headNote, items. -/
namespace Go.Proofs.YtmfkdgdamepbcaaGreatDoor
open Go.RowKit Go.Lib
set_option linter.unusedVariables false
set_option linter.unusedSimpArgs false
set_option maxHeartbeats 0
set_option maxRecDepth 100000
def LsI (n0 base r g : Nat) (s name : ByteArray) (w0 : World) (vE : Value) (es : List Dcl) (o : Option (List Df × Nat)) (w' : World) : Prop :=
  ∃ (a : Nat) (q : Bool) (vD : Value) (ds' : List Df), SH n0 base r g s name w0 w' a q vE vD es ds' ∧ ((q = false ∧ o = some (ds', a) ∧ ds'.length ≤ 6) ∨ (q = true ∧ o = none))
theorem scAttlist_calls (n0 base r g : Nat) (s name : ByteArray) (k : Nat) (vE vD : Value) (es : List Dcl) (ds : List Df) (w0 w : World) (hs : s.size ≤ 1048576) (hes : entsOk es = true) (hds : ds.length ≤ 6) (h : SH n0 base r g s name w0 w k false vE vD es ds) :
    Calls Tryz.prog 102 #[.pointer (some ⟨r, 0, none⟩), .pointer (some ⟨g, 0, none⟩)] w fun e w' => e = .returned (.tuple #[]) ∧ LsI n0 base r g s name w0 vE es (listO s k es ds) w' := by
  have hk : k ≤ s.size := h.sc.le
  obtain ⟨a1, ha1⟩ : ∃ x, x = blanksN s k := ⟨_, rfl⟩
  obtain ⟨q1, hq1⟩ : ∃ x, x = (false || !decide (k < a1)) := ⟨_, rfl⟩
  have HG1 := Aside0.mk (scGap_calls s k r false w (by omega) h.sc)
  rw [← ha1, ← hq1] at HG1
  obtain ⟨⟨el, a2, q2⟩, hp2⟩ : ∃ p, p = nameF s a1 q1 := ⟨_, rfl⟩
  have HNm := Aside0.mk (fun W (h : Sc W r s a1 q1) (hE : Env W) => scName_calls s a1 r q1 W (by omega) h hE)
  rw [← hp2] at HNm
  dsimp only at HNm
  obtain ⟨o, ho⟩ : ∃ o, o = listO s k es ds := ⟨_, rfl⟩
  have hst := list_start (s := s) (n := el) (k := k) (a2 := a2) (es := es) (ds := ds) (q1 := q1) (q2 := q2) (by rw [hq1, ha1]) (by rw [← ha1]; exact hp2)
  rw [← ho] at hst ⊢
  replace hst := Aside0.mk hst
  clear ha1 hq1 hp2 ho
  go_enter Tryz.func102, Tryz.ntmps102
  go_wp2_with fail
  refine (HG1.out).mono ?_
  rintro e w1 ⟨rfl, r1, m1⟩
  replace h := h.step r1 m1
  clear r1 m1 HG1
  go_wp2_with fail
  refine (HNm.out _ h.sc h.here).mono ?_
  rintro e w2 ⟨rfl, r2, m2⟩
  replace h := h.step r2 m2
  clear r2 m2
  go_wp2_with fail
  go_loopg [] (if q2 = true then 0 else s.size - a2 + 1) (fun gd wx => ∃ (a : Nat) (q : Bool) (vD : Value) (ds : List Df), gd = (if q = true then 0 else s.size - a + 1) ∧ SH n0 base r g s name w0 wx a q vE vD es ds ∧ Aside ((q = false → o = listN s el es a ds ∧ ds.length ≤ 6) ∧ (q = true → o = none)))
  case atStart =>
    refine ⟨_, _, _, _, rfl, h, fun e => ?_, fun e => ?_⟩
    · rcases hst.out with ⟨_, e2⟩ | ⟨e1, _⟩
      · exact ⟨e2, hds⟩
      · rw [e1] at e; cases e
    · rcases hst.out with ⟨e1, _⟩ | ⟨_, e2⟩
      · rw [e1] at e; cases e
      · exact e2
  case round =>
    clear h hst
    obtain ⟨a, q, vD, ds, rfl, h, ha⟩ := hrel
    replace ha := Aside0.mk ha
    obtain ⟨c0, c1, c2, f1, f2⟩ := h.sc.cells
    -- the end
    cases q with
    | true =>
      have hn := Aside0.mk (ha.out.2 rfl)
      go_upto_region 4 with fail
      clear c0 c1 c2 f1 f2
      have HM := Aside0.mk (scMust_calls s ⟨#[62]⟩ a r true _ (by omega) h.sc)
      obtain ⟨⟨a3, q3⟩, hp3⟩ : ∃ p, p = mustF s ⟨#[62]⟩ a true := ⟨_, rfl⟩
      rw [← hp3] at HM
      dsimp only at HM
      have hfin : (q3 = false ∧ o = some (ds, a3)) ∨ (q3 = true ∧ o = none) := (.inr ⟨by rw [mustF_bad] at hp3; injection hp3, hn.out⟩)
      clear hp3
      go_wp2_with fail
      refine (HM.out).mono ?_
      rintro e w9 ⟨rfl, r9, m9⟩
      replace h := h.step r9 m9
      have hout := Aside0.mk (show LsI n0 base r g s name w0 vE es o w9 from ⟨a3, q3, _, _, h, by
        rcases hfin with ⟨e1, e2⟩ | ⟨e1, e2⟩
        · exact .inl ⟨e1, e2, (by cases e2.symm.trans hn.out)⟩
        · exact .inr ⟨e1, e2⟩⟩)
      clear r9 m9 h hfin HM
      go_wp2
      go_end0
      exact ⟨rfl, hout.out⟩
    | false =>
    obtain ⟨hO, hds⟩ := ha.out.1 rfl
    clear ha
    have hka := h.sc.le
    have HBl := Aside0.mk (scBlanks_calls s a r false _ (by omega) h.sc)
    have hbl := blanksN_le s a
    obtain ⟨b, hbe⟩ : ∃ b, b = blanksN s a := ⟨_, rfl⟩
    rw [← hbe] at HBl hbl
    replace hbe := Aside0.mk hbe
    replace hO := Aside0.mk hO
    by_cases hkb : a < b
    case neg =>
      rw [decide_eq_false hkb] at HBl
      go_wp2_with fail
      refine (HBl.out).mono ?_
      rintro e w3 ⟨rfl, r3, m3⟩
      replace h := h.step r3 m3
      clear r3 m3 HBl c0 c1 c2 f1 f2
      go_upto_region 4 with fail
      have HM := Aside0.mk (scMust_calls s ⟨#[62]⟩ b r false _ (by omega) h.sc)
      obtain ⟨⟨a3, q3⟩, hp3⟩ : ∃ p, p = mustF s ⟨#[62]⟩ b false := ⟨_, rfl⟩
      rw [← hp3] at HM
      dsimp only at HM
      have hfin : (q3 = false ∧ o = some (ds, a3)) ∨ (q3 = true ∧ o = none) := (by rw [hO.out]; exact list_end hka hbe.out (.inl (by omega)) hp3)
      clear hp3
      go_wp2_with fail
      refine (HM.out).mono ?_
      rintro e w9 ⟨rfl, r9, m9⟩
      replace h := h.step r9 m9
      have hout := Aside0.mk (show LsI n0 base r g s name w0 vE es o w9 from ⟨a3, q3, _, _, h, by
        rcases hfin with ⟨e1, e2⟩ | ⟨e1, e2⟩
        · exact .inl ⟨e1, e2, hds⟩
        · exact .inr ⟨e1, e2⟩⟩)
      clear r9 m9 h hfin HM
      go_wp2
      go_end0
      exact ⟨rfl, hout.out⟩
    rw [decide_eq_true hkb] at HBl
    go_wp2_with fail
    refine (HBl.out).mono ?_
    rintro e w3 ⟨rfl, r3, m3⟩
    replace h := h.step r3 m3
    clear r3 m3 HBl c0 c1 c2 f1 f2
    have HH := Aside0.mk (scHasName_calls s b r _ (by omega) h.sc h.here)
    by_cases hnm : b < nameEnd s b
    case neg =>
      rw [decide_eq_false hnm] at HH
      go_wp2_with fail
      refine (HH.out).mono ?_
      rintro e w4 ⟨rfl, hb4⟩
      replace h := h.below hb4
      clear hb4 HH
      go_upto_region 4 with fail
      have HM := Aside0.mk (scMust_calls s ⟨#[62]⟩ b r false _ (by omega) h.sc)
      obtain ⟨⟨a3, q3⟩, hp3⟩ : ∃ p, p = mustF s ⟨#[62]⟩ b false := ⟨_, rfl⟩
      rw [← hp3] at HM
      dsimp only at HM
      have hfin : (q3 = false ∧ o = some (ds, a3)) ∨ (q3 = true ∧ o = none) := (by rw [hO.out]; exact list_end hka hbe.out (.inr hnm) hp3)
      clear hp3
      go_wp2_with fail
      refine (HM.out).mono ?_
      rintro e w9 ⟨rfl, r9, m9⟩
      replace h := h.step r9 m9
      have hout := Aside0.mk (show LsI n0 base r g s name w0 vE es o w9 from ⟨a3, q3, _, _, h, by
        rcases hfin with ⟨e1, e2⟩ | ⟨e1, e2⟩
        · exact .inl ⟨e1, e2, hds⟩
        · exact .inr ⟨e1, e2⟩⟩)
      clear r9 m9 h hfin HM
      go_wp2
      go_end0
      exact ⟨rfl, hout.out⟩
    rw [decide_eq_true hnm] at HH
    have hRb := Aside0.mk (show o = (defO s b el es ds).bind fun q => listN s el es q.2 (ds ++ [q.1]) by rw [hO.out]; exact list_on hka hbe.out hkb hnm)
    clear hnm
    go_wp2_with fail
    refine (HH.out).mono ?_
    rintro e w4 ⟨rfl, hb4⟩
    replace h := h.below hb4
    clear hb4 HH
    go_wp2_with fail
    refine (scDef_calls n0 base r g s name el b vE vD es ds w0 _ hs hes hds h).mono ?_
    rintro e w5 ⟨rfl, hDf⟩
    have hbs := h.sc.le
    clear h
    obtain ⟨a5, q5, vD5, ds5, h, hd5⟩ := hDf
    have hnx := Aside0.mk (show (q5 = false → o = listN s el es a5 ds5 ∧ ds5.length ≤ 6 ∧ b < a5 ∧ a5 ≤ s.size) ∧ (q5 = true → o = none) from by
      rcases hd5 with ⟨e1, d, e2, e3⟩ | ⟨e1, e2⟩
      · refine ⟨fun _ => ?_, fun e => by rw [e1] at e; cases e⟩
        have := defO_next hbs e2
        subst e3
        exact ⟨by rw [hRb.out, e2]; rfl, by rw [List.length_append, List.length_singleton]; exact this.2.2, this.1, this.2.1⟩
      · exact ⟨fun e => (by rw [e1] at e; cases e), fun _ => by rw [hRb.out, e2]; rfl⟩)
    clear hd5
    have hSH := Aside0.mk h
    clear h
    go_wp2
    go_roundg (if q5 = true then 0 else s.size - a5 + 1)
    case measure =>
      have := hnx.out
      cases q5 with
      | true => simp
      | false => have := this.1 rfl; simp; omega
    case rel => exact ⟨a5, q5, _, _, rfl, hSH.out, fun e => ⟨(hnx.out.1 e).1, (hnx.out.1 e).2.1⟩, hnx.out.2⟩
theorem note_lt {s : ByteArray} {b k : Nat} (hb : b ≤ s.size) (h : noteM (markO s (b : Nat) []) = some k) : b < k := by
  rw [note_mark hb] at h
  split at h
  · rename_i hi
    have := (hnoteO_next (isAt_room hi) h).1
    have h4 : (⟨#[60, 33, 45, 45]⟩ : ByteArray).size = 4 := rfl
    omega
  · cases h
theorem scTake_hitN (s t : ByteArray) (a g n : Nat) (w : World) (hs : s.size ≤ 1000000000) (hn : t.size = n) (h : Sc w g s a false) (ht : isAtB s t (a : Nat) = true) :
    Calls Tryz.prog 60 #[.pointer (some ⟨g, 0, none⟩), .string t] w fun e w' => e = .returned (.bool true) ∧ Sc w' g s (a + n) false ∧ Moved g w w' := by
  subst hn
  exact scTake_hit s t a g w hs h ht
theorem scTake_missF (s t : ByteArray) (a g : Nat) (w : World) (hs : s.size ≤ 1000000000) (h : Sc w g s a false) (ht : isAtB s t (a : Nat) = false) :
    Calls Tryz.prog 60 #[.pointer (some ⟨g, 0, none⟩), .string t] w fun e w' => e = .returned (.bool false) ∧ Sc w' g s a false ∧ Moved g w w' :=
  scTake_miss s t a g false w hs h (by rw [ht]; rfl)
def ItsI (n0 base r g : Nat) (s name : ByteArray) (w0 : World) (o : Option (List Dcl × List Df × Nat)) (w' : World) : Prop :=
  ∃ (a : Nat) (q : Bool) (vE vD : Value) (es' : List Dcl) (ds' : List Df), SH n0 base r g s name w0 w' a q vE vD es' ds' ∧ ((q = false ∧ o = some (es', ds', a)) ∨ (q = true ∧ o = none))
theorem scItems_calls (n0 base r g : Nat) (s name : ByteArray) (k : Nat) (vE vD : Value) (es : List Dcl) (ds : List Df) (w0 w : World) (hs : s.size ≤ 1048576) (hes : entsOk es = true) (hds : ds.length ≤ 6) (h : SH n0 base r g s name w0 w k false vE vD es ds) :
    Calls Tryz.prog 61 #[.pointer (some ⟨r, 0, none⟩), .pointer (some ⟨g, 0, none⟩)] w fun e w' => e = .returned (.tuple #[]) ∧ ItsI n0 base r g s name w0 (itemsN s k es ds) w' := by
  obtain ⟨O, hO⟩ : ∃ o, o = itemsN s k es ds := ⟨_, rfl⟩
  rw [← hO]
  replace hO := Aside0.mk hO
  go_enter Tryz.func61, Tryz.ntmps61
  go_wp2_with fail
  go_loopg [] (s.size - k + 1) (fun gd wx => ∃ (a : Nat) (q : Bool) (vE vD : Value) (es : List Dcl) (ds : List Df), gd = (if q = true then 0 else s.size - a + 1) ∧ SH n0 base r g s name w0 wx a q vE vD es ds ∧ Aside ((q = false → O = itemsN s a es ds ∧ entsOk es = true ∧ ds.length ≤ 6) ∧ (q = true → O = none)))
  case atStart => exact ⟨k, false, _, _, _, _, rfl, h, fun _ => ⟨hO.out, hes, hds⟩, fun e => by cases e⟩
  case round =>
    clear h hO hes hds
    obtain ⟨a, q, vE, vD, es, ds, rfl, h, ha⟩ := hrel
    replace ha := Aside0.mk ha
    have hka := h.sc.le
    have HBl := Aside0.mk (scBlanks_calls s a r q _ (by omega) h.sc)
    have hbl := blanksN_le s a
    obtain ⟨b, hbe⟩ : ∃ b, b = blanksN s a := ⟨_, rfl⟩
    rw [← hbe] at HBl hbl
    replace hbe := Aside0.mk hbe
    go_wp2_with fail
    refine (HBl.out).mono ?_
    rintro e w1 ⟨rfl, r1, m1⟩
    replace h := h.step r1 m1
    clear r1 m1 HBl
    obtain ⟨c0, c1, c2, f1, f2⟩ := h.sc.cells
    cases q with
    | true =>
      have hout := Aside0.mk (show ItsI n0 base r g s name w0 O w1 from ⟨_, _, _, _, _, _, h, .inr ⟨rfl, ha.out.2 rfl⟩⟩)
      clear h
      go_wp2
      (try simp only [Exit.inBlock, Exit.then]); refine bodyPost_ret (results_none rfl _ _ _) rfl ?_
      exact ⟨rfl, hout.out⟩
    | false =>
    obtain ⟨hO, hes, hds⟩ := ha.out.1 rfl
    have hOi := Aside0.mk (hO.trans (items_i hka hbe.out))
    clear ha hO
    -- the next round
    cases h93 : isAtB s ⟨#[93]⟩ (b : Nat) with
    | true =>
      have Hx := Aside0.mk (scTake_hitN s ⟨#[93]⟩ b r 1 _ (by omega) rfl h.sc h93)
      have hn := Aside0.mk (hOi.out.trans (if_pos h93))
      clear h93
      go_wp2_with fail
      refine (Hx.out).mono ?_
      rintro e w2 ⟨rfl, r2, m2⟩
      have hout := Aside0.mk (show ItsI n0 base r g s name w0 O w2 from ⟨_, _, _, _, _, _, h.step r2 m2, .inl ⟨rfl, hn.out⟩⟩)
      clear h r2 m2 c0 c1 c2 f1 f2
      go_wp2
      (try simp only [Exit.inBlock, Exit.then]); refine bodyPost_ret (results_none rfl _ _ _) rfl ?_
      exact ⟨rfl, hout.out⟩
    | false =>
    have Hx := Aside0.mk (scTake_missF s ⟨#[93]⟩ b r _ (by omega) h.sc h93)
    replace hOi := Aside0.mk (hOi.out.trans (if_neg (by rw [h93]; decide)))
    clear h93
    go_wp2_with fail
    refine (Hx.out).mono ?_
    rintro e w2 ⟨rfl, r2, m2⟩
    replace h := h.step r2 m2
    clear r2 m2 Hx c0 c1 c2 f1 f2
    cases h69 : isAtB s ⟨#[60, 33, 69, 78, 84, 73, 84, 89]⟩ (b : Nat) with
    | true =>
      have Hx := Aside0.mk (scTake_hitN s ⟨#[60, 33, 69, 78, 84, 73, 84, 89]⟩ b r 8 _ (by omega) rfl h.sc h69)
      replace hOi := Aside0.mk (hOi.out.trans (if_pos h69))
      clear h69
      go_wp2_with fail
      refine (Hx.out).mono ?_
      rintro e w3 ⟨rfl, r3, m3⟩
      replace h := h.step r3 m3
      have hb8 := h.sc.le
      clear r3 m3 Hx
      go_wp2_with fail
      refine (scEntity_calls n0 base r g s name (b + 8) vE vD es ds w0 _ hs hes h).mono ?_
      rintro e w4 ⟨rfl, hEn⟩
      clear h
      obtain ⟨a5, q5, vE5, es5, h, hd5⟩ := hEn
      replace hd5 := Aside0.mk hd5
      have hnx := Aside0.mk (show (q5 = false → O = itemsN s a5 es5 ds ∧ (entsOk es5 = true ∧ ds.length ≤ 6) ∧ b < a5 ∧ a5 ≤ s.size) ∧ (q5 = true → O = none) from (by rcases hd5.out with ⟨e1, d, e2, e3⟩ | ⟨e1, e2⟩; (have hx := entO_next hb8 e2; subst e3; exact ⟨fun _ => ⟨by rw [hOi.out, e2]; rfl, ⟨hx.2.2, hds⟩, by omega, hx.2.1⟩, fun e => by rw [e1] at e; cases e⟩); (exact ⟨fun e => (by rw [e1] at e; cases e), fun _ => by rw [hOi.out, e2]; rfl⟩)))
      have hSH := Aside0.mk h
      clear h
      go_wp2
      go_roundg (if q5 = true then 0 else s.size - a5 + 1)
      case measure =>
        have := hnx.out
        cases q5 with
        | true => simp
        | false => have := this.1 rfl; simp; omega
      case rel => exact ⟨a5, q5, _, _, _, _, rfl, hSH.out, fun e => ⟨(hnx.out.1 e).1, (hnx.out.1 e).2.1⟩, hnx.out.2⟩
    | false =>
    have Hx := Aside0.mk (scTake_missF s ⟨#[60, 33, 69, 78, 84, 73, 84, 89]⟩ b r _ (by omega) h.sc h69)
    replace hOi := Aside0.mk (hOi.out.trans (if_neg (by rw [h69]; decide)))
    clear h69
    go_wp2_with fail
    refine (Hx.out).mono ?_
    rintro e w3 ⟨rfl, r3, m3⟩
    replace h := h.step r3 m3
    clear r3 m3 Hx
    cases h65 : isAtB s ⟨#[60, 33, 65, 84, 84, 76, 73, 83, 84]⟩ (b : Nat) with
    | true =>
      have Hx := Aside0.mk (scTake_hitN s ⟨#[60, 33, 65, 84, 84, 76, 73, 83, 84]⟩ b r 9 _ (by omega) rfl h.sc h65)
      replace hOi := Aside0.mk (hOi.out.trans (if_pos h65))
      clear h65
      go_wp2_with fail
      refine (Hx.out).mono ?_
      rintro e w4 ⟨rfl, r4, m4⟩
      replace h := h.step r4 m4
      have hb9 := h.sc.le
      clear r4 m4 Hx
      go_wp2_with fail
      refine (scAttlist_calls n0 base r g s name (b + 9) vE vD es ds w0 _ hs hes hds h).mono ?_
      rintro e w5 ⟨rfl, hLs⟩
      clear h
      obtain ⟨a5, q5, vD5, ds5, h, hd5⟩ := hLs
      replace hd5 := Aside0.mk hd5
      have hnx := Aside0.mk (show (q5 = false → O = itemsN s a5 es ds5 ∧ (entsOk es = true ∧ ds5.length ≤ 6) ∧ b < a5 ∧ a5 ≤ s.size) ∧ (q5 = true → O = none) from (by rcases hd5.out with ⟨e1, e2, e3⟩ | ⟨e1, e2⟩; (have hx := listO_next hb9 e2; exact ⟨fun _ => ⟨by rw [hOi.out, e2]; rfl, ⟨hes, e3⟩, by omega, hx.2⟩, fun e => by rw [e1] at e; cases e⟩); (exact ⟨fun e => (by rw [e1] at e; cases e), fun _ => by rw [hOi.out, e2]; rfl⟩)))
      have hSH := Aside0.mk h
      clear h
      go_wp2
      go_roundg (if q5 = true then 0 else s.size - a5 + 1)
      case measure =>
        have := hnx.out
        cases q5 with
        | true => simp
        | false => have := this.1 rfl; simp; omega
      case rel => exact ⟨a5, q5, _, _, _, _, rfl, hSH.out, fun e => ⟨(hnx.out.1 e).1, (hnx.out.1 e).2.1⟩, hnx.out.2⟩
    | false =>
      have Hx := Aside0.mk (scTake_missF s ⟨#[60, 33, 65, 84, 84, 76, 73, 83, 84]⟩ b r _ (by omega) h.sc h65)
      replace hOi := Aside0.mk (hOi.out.trans (if_neg (by rw [h65]; decide)))
      clear h65
      go_wp2_with fail
      refine (Hx.out).mono ?_
      rintro e w4 ⟨rfl, r4, m4⟩
      replace h := h.step r4 m4
      have hbs := h.sc.le
      clear r4 m4 Hx
      go_wp2_with fail
      refine (scHeadNote_calls s b r w0 _ hs h.sc h.bs).mono ?_
      rintro e w5 ⟨rfl, a5, q5, r5, m5, hd5⟩
      replace h := h.step r5 m5
      have ha5 := r5.le
      clear r5 m5
      replace hd5 := Aside0.mk hd5
      have hnx := Aside0.mk (show (q5 = false → O = itemsN s a5 es ds ∧ (entsOk es = true ∧ ds.length ≤ 6) ∧ b < a5 ∧ a5 ≤ s.size) ∧ (q5 = true → O = none) from (by rcases hd5.out with ⟨e1, e2⟩ | ⟨e1, e2⟩; (exact ⟨fun _ => ⟨by rw [hOi.out, e2]; rfl, ⟨hes, hds⟩, note_lt hbs e2, ha5⟩, fun e => by rw [e1] at e; cases e⟩); (exact ⟨fun e => (by rw [e1] at e; cases e), fun _ => by rw [hOi.out, e2]; rfl⟩)))
      have hSH := Aside0.mk h
      clear h
      go_wp2
      go_roundg (if q5 = true then 0 else s.size - a5 + 1)
      case measure =>
        have := hnx.out
        cases q5 with
        | true => simp
        | false => have := this.1 rfl; simp; omega
      case rel => exact ⟨a5, q5, _, _, _, _, rfl, hSH.out, fun e => ⟨(hnx.out.1 e).1, (hnx.out.1 e).2.1⟩, hnx.out.2⟩
end Go.Proofs.YtmfkdgdamepbcaaGreatDoor
end
section
/- HeadAt of the program. -/
namespace Go.Proofs.YtmfkdgdamepbcaaGreatDoor
open Go.RowKit Go.Lib
set_option linter.unusedVariables false
set_option linter.unusedSimpArgs false
set_option maxHeartbeats 0
set_option maxRecDepth 100000
theorem head_boxI {w W1 : World} (hW1 : W1 = w.alloc (.cells #[.string ⟨#[]⟩, .slice none 0 0, .slice none 0 0] 48 (0, 0))) :
    W1.heap[w.heap.size]? = some (.cells #[.string ⟨#[]⟩, .slice none 0 0, .slice none 0 0] 48 (0, 0)) ∧ Below w.heap.size w W1 ∧ W1.heap.size = w.heap.size + 1 := by
  have s1 : W1.heap.size = w.heap.size + 1 := by rw [hW1]; exact Array.size_push _
  exact ⟨by rw [hW1]; exact Array.getElem?_push_size, by rw [hW1]; exact below_alloc (Below.refl _ _) _, s1⟩
theorem head_law_i {s n : ByteArray} {k a2 : Nat} {q1 q2 : Bool} {O : Option (Hd × Nat)} (hk : k + 9 ≤ s.size) (hd : isAtB s ⟨#[60, 33, 68, 79, 67, 84, 89, 80, 69]⟩ (k : Nat) = true) (hO : O = headO s (k : Nat)) (h1 : q1 = (false || !decide (k + 9 < blanksN s (k + 9)))) (h2 : (n, a2, q2) = nameF s (blanksN s (k + 9)) q1) :
    (q2 = false → O = (restO s (blanksN s a2)).bind (tailO s n)) ∧ (q2 = true → O = none) := by
  rw [hO]
  unfold headO
  rw [if_pos hd, Int.toNat_natCast]
  rcases (gap_b h1).2 rfl with ⟨g, e⟩ | ⟨g, e⟩
  case inr =>
    rw [g]
    have := (name_b h2).1 e
    exact ⟨fun e2 => (by rw [this] at e2; cases e2), fun _ => rfl⟩
  rw [g]
  simp only [Option.bind_some]
  rcases (name_b h2).2 e with ⟨g, e⟩ | ⟨g, e⟩
  case inr => rw [g]; exact ⟨fun e2 => (by rw [e] at e2; cases e2), fun _ => rfl⟩
  rw [g]
  exact ⟨fun _ => rfl, fun e2 => by rw [e] at e2; cases e2⟩
theorem SH.start {w0 w W5 : World} {s n : ByteArray} {a r g : Nat} {q : Bool} (hE : Env w0) (hr : r = w0.heap.size) (hb : Below r w0 w) (hS : Sc w r s a q) (hg : g = w.heap.size) (hW5 : W5 = w.alloc (.cells #[.string n, .slice none 0 0, .slice none 0 0] 48 (0, 0))) :
    SH r (g + 1) r g s n w0 W5 a q (.slice none 0 0) (.slice none 0 0) [] [] := by
  have s5 : W5.heap.size = w.heap.size + 1 := by rw [hW5]; exact Array.size_push _
  have b5 : Below w.heap.size w W5 := by rw [hW5]; exact below_alloc (Below.refl _ _) _
  have hl := hS.lt
  have hw := hb.size
  exact ⟨hb.trans (b5.mono (by omega)), hS.below b5, ⟨by rw [hg, hW5]; exact Array.getElem?_push_size, by omega, by omega, World.ownsRow_nil _ _ _ _, World.ownsRow_nil _ _ _ _, fun k e => by cases e⟩, by omega, Nat.le_refl _, by omega, by omega, by omega, by omega, hE, hr⟩
theorem implHeadAt_calls (s : ByteArray) (a : Int) (w : World) (hs : s.size ≤ 1048576) (ha0 : -9223372036854775808 ≤ a) (ha1 : a ≤ 9223372036854775807) (hE : Env w) :
    Calls Tryz.prog 23 #[.string s, .int .i64 a] w (HdOut w (headO s a)) := by
  obtain ⟨O, hO⟩ : ∃ O, O = headO s a := ⟨_, rfl⟩
  rw [← hO]
  obtain ⟨W1, hW1⟩ : ∃ W, W = w.alloc (.cells #[.string ⟨#[]⟩, .slice none 0 0, .slice none 0 0] 48 (0, 0)) := ⟨_, rfl⟩
  obtain ⟨hres, hb1, s1⟩ := head_boxI hW1
  obtain ⟨r, hr⟩ : ∃ r, r = w.heap.size + 1 := ⟨_, rfl⟩
  rw [← hr] at s1
  have RG := Aside0.mk (fun W (hb : Below r W1 W) => (hb.block w.heap.size (by omega)).trans hres)
  have HB := Aside0.mk (fun W (hb : Below r W1 W) => show Below w.heap.size w W from hb1.trans ⟨hb.os, hb.tape, hb.output, hb.size, fun k hk => hb.block k (by omega)⟩)
  have HE1 := Aside0.mk (hE.below hb1)
  have Hr := Aside0.mk hr
  have HS1 := Aside0.mk s1
  have HIn := Aside0.mk (fun W => in_calls a 0 (s.size : Int) W)
  have HW1 := Aside0.mk hW1
  replace hO := Aside0.mk hO
  clear hres hb1 s1 hE hW1
  -- a bad end, in a world behind W1
  have hbW : Below r W1 W1 := Below.refl _ _
  by_cases hin : 0 ≤ a ∧ a ≤ s.size
  case neg =>
    have hn := Aside0.mk (show O = none by
      rw [hO.out, headO]
      cases hd : isAtB s ⟨#[60, 33, 68, 79, 67, 84, 89, 80, 69]⟩ a with
      | false => rfl
      | true => have h9 := isAt_roomI hd; exact absurd ⟨h9.1, by omega⟩ hin)
    rw [show (decide ((0 : Int) ≤ a) && decide (a ≤ (s.size : Int))) = false by simp only [Bool.and_eq_false_iff, decide_eq_false_iff_not]; omega] at HIn
    clear hin hO
    go_enter Tryz.func23, Tryz.ntmps23
    go_upto_region 1 with fail
    rw [← HW1.out]
    go_wp2_with fail
    refine (HIn.out _).mono ?_
    rintro e w2 ⟨rfl, rfl⟩
    obtain ⟨r0, r1, r2, f0, f1, f2⟩ := cells3 (RG.out _ hbW)
    go_wp2
    obtain ⟨X1, hX1, hXg1, hXm1⟩ := put3_0 (RG.out _ hbW) (.string ⟨#[]⟩)
    obtain ⟨X2, hX2, hXg2, hXm2⟩ := put3_1 hXg1 (.slice none 0 0)
    obtain ⟨X, hX, hXg, hXm3⟩ := put3_2 hXg2 (.slice none 0 0)
    have hXm := (hXm1.trans hXm2).trans hXm3
    rw [← hX1, ← hX2, ← hX]
    clear hX hX1 hX2 hXg1 hXg2 hXm1 hXm2 hXm3 r0 r1 r2 f0 f1 f2
    obtain ⟨p0, p1, p2, _⟩ := cells3 hXg
    refine bodyPost_ret (v := .tuple #[.agg #[.string ⟨#[]⟩, .slice none 0 0, .slice none 0 0], .int .i64 0, .bool false]) ?hres rfl (HdOut.none hn.out (below_moved (HB.out _ hbW) hXm (Nat.le_refl _)))
    case hres => simp [results, Tryz.results23, go_sem, p0, p1, p2]
  obtain ⟨k, rfl⟩ : ∃ k : Nat, a = k := ⟨a.toNat, by omega⟩
  have hk : k ≤ s.size := by omega
  rw [show (decide ((0 : Int) ≤ (k : Nat)) && decide (((k : Nat) : Int) ≤ (s.size : Int))) = true by simp only [Bool.and_eq_true, decide_eq_true_eq]; omega] at HIn
  clear hin
  obtain ⟨W2, hW2⟩ : ∃ W, W = W1.alloc (.cells #[.string s, .int .i64 (k : Nat), .bool false] 75 (0, 0)) := ⟨_, rfl⟩
  have hS : Sc W2 r s k false := ⟨by rw [hW2, ← HS1.out]; exact Array.getElem?_push_size, hk⟩
  have hb2 : Below r W1 W2 := by rw [hW2, ← HS1.out]; exact below_alloc (Below.refl _ _) _
  have HW2 := Aside0.mk hW2
  clear hW2
  cases hd : isAtB s ⟨#[60, 33, 68, 79, 67, 84, 89, 80, 69]⟩ (k : Nat) with
  | false =>
    have hn := Aside0.mk (show O = none by rw [hO.out, headO, hd]; rfl)
    have HM := Aside0.mk (scMust_miss s ⟨#[60, 33, 68, 79, 67, 84, 89, 80, 69]⟩ k r false W2 (by omega) hS (by rw [hd]; rfl))
    clear hd hO hr
    go_enter Tryz.func23, Tryz.ntmps23
    go_upto_region 1 with fail
    rw [← HW1.out]
    go_wp2_with fail
    refine (HIn.out _).mono ?_
    rintro e w2 ⟨rfl, rfl⟩
    go_upto_region 4 with fail
    rw [← HW2.out]
    try rw [HS1.out]
    go_wp2_with fail
    refine (HM.out).mono ?_
    rintro e w3 ⟨rfl, hS3, hm3⟩
    obtain ⟨c0, c1, c2, f1, f2⟩ := hS3.cells
    have hb3 : Below r W1 w3 := hb2.trans (hm3.below (Nat.le_refl _) (by have := hb2.size; have := HS1.out; omega))
    go_upto_region 6 with fail
    clear c0 c1 c2 f1 f2 hS3 hS
    obtain ⟨r0, r1, r2, f0, f1, f2⟩ := cells3 (RG.out _ hb3)
    go_wp2
    obtain ⟨X1, hX1, hXg1, hXm1⟩ := put3_0 (RG.out _ hb3) (.string ⟨#[]⟩)
    obtain ⟨X2, hX2, hXg2, hXm2⟩ := put3_1 hXg1 (.slice none 0 0)
    obtain ⟨X, hX, hXg, hXm3⟩ := put3_2 hXg2 (.slice none 0 0)
    have hXm := (hXm1.trans hXm2).trans hXm3
    rw [← hX1, ← hX2, ← hX]
    clear hX hX1 hX2 hXg1 hXg2 hXm1 hXm2 hXm3 r0 r1 r2 f0 f1 f2
    obtain ⟨p0, p1, p2, _⟩ := cells3 hXg
    refine bodyPost_ret (v := .tuple #[.agg #[.string ⟨#[]⟩, .slice none 0 0, .slice none 0 0], .int .i64 0, .bool false]) ?hres rfl (HdOut.none hn.out (below_moved (HB.out _ hb3) hXm (Nat.le_refl _)))
    case hres => simp [results, Tryz.results23, go_sem, p0, p1, p2]
  | true =>
    have hk9 : k + 9 ≤ s.size := isAt_room hd
    have HM := Aside0.mk (show Calls Tryz.prog 56 #[.pointer (some ⟨r, 0, none⟩), .string ⟨#[60, 33, 68, 79, 67, 84, 89, 80, 69]⟩] W2 fun e w' => e = .returned (.tuple #[]) ∧ Sc w' r s (k + 9) false ∧ Moved r W2 w' from scMust_hit s ⟨#[60, 33, 68, 79, 67, 84, 89, 80, 69]⟩ k r W2 (by omega) hS hd)
    obtain ⟨a1, ha1⟩ : ∃ x, x = blanksN s (k + 9) := ⟨_, rfl⟩
    obtain ⟨q1, hq1⟩ : ∃ x, x = (false || !decide (k + 9 < a1)) := ⟨_, rfl⟩
    have HG1 := Aside0.mk (fun W (h : Sc W r s (k + 9) false) => scGap_calls s (k + 9) r false W (by omega) h)
    rw [← ha1, ← hq1] at HG1
    obtain ⟨⟨n, a2, q2⟩, hp2⟩ : ∃ p, p = nameF s a1 q1 := ⟨_, rfl⟩
    have HNm := Aside0.mk (fun W (h : Sc W r s a1 q1) (hE : Env W) => scName_calls s a1 r q1 W (by omega) h hE)
    rw [← hp2] at HNm
    dsimp only at HNm
    have hl := head_law_i (n := n) (a2 := a2) (q1 := q1) (q2 := q2) hk9 hd hO.out (by rw [hq1, ha1]) (by rw [← ha1]; exact hp2)
    obtain ⟨a3, ha3⟩ : ∃ x, x = blanksN s a2 := ⟨_, rfl⟩
    rw [← ha3] at hl
    replace hl := Aside0.mk hl
    have HB3 := Aside0.mk (fun W (h : Sc W r s a2 q2) => scBlanks_calls s a2 r q2 W (by omega) h)
    rw [← ha3] at HB3
    obtain ⟨⟨br, a4⟩, hp4⟩ : ∃ p, p = takeF s ⟨#[91]⟩ a3 q2 := ⟨_, rfl⟩
    have HT4 := Aside0.mk (fun W (h : Sc W r s a3 q2) => scTake_calls s ⟨#[91]⟩ a3 r q2 W (by omega) h)
    rw [← hp4] at HT4
    dsimp only at HT4
    replace hp4 := Aside0.mk hp4
    clear hd hO hr ha1 hq1 hp2 ha3
    go_enter Tryz.func23, Tryz.ntmps23
    go_upto_region 1 with fail
    rw [← HW1.out]
    go_wp2_with fail
    refine (HIn.out _).mono ?_
    rintro e w2 ⟨rfl, rfl⟩
    go_upto_region 4 with fail
    rw [← HW2.out]
    try rw [HS1.out]
    go_wp2_with fail
    refine (HM.out).mono ?_
    rintro e w3 ⟨rfl, hS3, hm3⟩
    have hb3 : Below r W1 w3 := hb2.trans (hm3.below (Nat.le_refl _) (by have := hb2.size; have := HS1.out; omega))
    obtain ⟨c0, c1, c2, f1, f2⟩ := hS3.cells
    clear hm3 hS hb2
    go_wp2_with fail
    refine (HG1.out _ hS3).mono ?_
    rintro e w4 ⟨rfl, hS4, hm4⟩
    have hb4 : Below r W1 w4 := hb3.trans (hm4.below (Nat.le_refl _) (by have := hb3.size; have := HS1.out; omega))
    clear c0 c1 c2 f1 f2 hm4 hS3 hb3
    go_wp2_with fail
    refine (HNm.out _ hS4 (HE1.out.below (by rw [HS1.out]; exact hb4))).mono ?_
    rintro e w5 ⟨rfl, hS5, hm5⟩
    have hb5 : Below r W1 w5 := hb4.trans (hm5.below (Nat.le_refl _) (by have := hb4.size; have := HS1.out; omega))
    clear hm5 hS4 hb4
    obtain ⟨W5, hW5⟩ : ∃ W, W = w5.alloc (.cells #[.string n, .slice none 0 0, .slice none 0 0] 48 (0, 0)) := ⟨_, rfl⟩
    obtain ⟨g, hg⟩ : ∃ g, g = w5.heap.size := ⟨_, rfl⟩
    have h := SH.start HE1.out HS1.out.symm hb5 hS5 hg hW5
    have HW5 := Aside0.mk hW5
    clear hW5 hS5 hb5
    go_upto_region 9 with fail
    rw [← HW5.out]
    rw [← hg]
    clear hg
    go_wp2_with fail
    refine (HB3.out _ h.sc).mono ?_
    rintro e w6 ⟨rfl, r6, m6⟩
    replace h := h.step r6 m6
    clear r6 m6
    go_wp2_with fail
    refine (HT4.out _ h.sc).mono ?_
    rintro e w7 ⟨rfl, r7, m7⟩
    replace h := h.step r7 m7
    clear r7 m7
    go_upto_if 34 with fail
    go_cut [] (fun wx => ∃ (a : Nat) (q : Bool) (vE vD : Value) (es : List Dcl) (ds : List Df), SH r (g + 1) r g s n W1 wx a q vE vD es ds ∧ Aside ((q = false → O = tailO s n (es, ds, a)) ∧ (q = true → O = none)))
    case first =>
      cases br with
      | false =>
        have hfin := Aside0.mk (show (q2 = false → O = tailO s n ([], [], a4)) ∧ (q2 = true → O = none) from
          ⟨fun e => by
            have h4 := hp4.out
            rw [e] at h4
            cases hi : isAtB s ⟨#[91]⟩ (a3 : Nat) with
            | true => rw [takeF_hit hi] at h4; injection h4 with h4; cases h4
            | false =>
              rw [takeF_miss hi] at h4
              injection h4 with _ h4
              rw [hl.out.1 e, restO, if_neg (by rw [hi]; decide), h4]; rfl, hl.out.2⟩)
        have hSH := Aside0.mk h
        clear h
        go_wp2_with fail
        go_meet
        exact ⟨_, _, _, _, _, _, hSH.out, hfin.out⟩
      | true =>
        have hst : q2 = false ∧ a4 = a3 + 1 ∧ O = ((itemsN s (a3 + 1) [] []).map fun q => (q.1, q.2.1, blanksN s q.2.2)).bind (tailO s n) := by
          have h4 := hp4.out
          cases e : q2 with
          | true => rw [e, takeF_bad] at h4; injection h4 with h4; cases h4
          | false =>
            rw [e] at h4
            cases hi : isAtB s ⟨#[91]⟩ (a3 : Nat) with
            | false => rw [takeF_miss hi] at h4; injection h4 with h4; cases h4
            | true =>
              rw [takeF_hit hi] at h4
              injection h4 with _ h4
              exact ⟨rfl, h4, by rw [hl.out.1 e, restO, if_pos hi]⟩
        obtain ⟨e1, e2, hO1⟩ := hst
        subst e1 e2
        replace hO1 := Aside0.mk hO1
        go_wp2_with fail
        refine (scItems_calls r (g + 1) r g s n (a3 + 1) _ _ [] [] W1 _ hs ents_nil (by decide) h).mono ?_
        rintro e w8 ⟨rfl, hIt⟩
        clear h
        obtain ⟨a8, q8, vE, vD, es, ds, h, hd8⟩ := hIt
        have HB9 := Aside0.mk (scBlanks_calls s a8 r q8 _ (by omega) h.sc)
        have hfin := Aside0.mk (show (q8 = false → O = tailO s n (es, ds, blanksN s a8)) ∧ (q8 = true → O = none) from by
          rcases hd8 with ⟨e1, e2⟩ | ⟨e1, e2⟩
          · exact ⟨fun _ => by rw [hO1.out, e2]; rfl, fun e => by rw [e1] at e; cases e⟩
          · exact ⟨fun e => (by rw [e1] at e; cases e), fun _ => by rw [hO1.out, e2]; rfl⟩)
        clear hd8
        go_wp2_with fail
        refine (HB9.out).mono ?_
        rintro e w9 ⟨rfl, r9, m9⟩
        have hSH := Aside0.mk (h.step r9 m9)
        clear h r9 m9
        go_wp2_with fail
        go_meet
        exact ⟨_, _, _, _, _, _, hSH.out, hfin.out⟩
    case rest =>
    clear h
    obtain ⟨a8, q8, vE, vD, es, ds, h, hc8⟩ := hcut
    replace hc8 := Aside0.mk hc8
    have HM9 := Aside0.mk (scMust_calls s ⟨#[62]⟩ a8 r q8 _ (by omega) h.sc)
    obtain ⟨⟨a9, q9⟩, hp9⟩ : ∃ p, p = mustF s ⟨#[62]⟩ a8 q8 := ⟨_, rfl⟩
    rw [← hp9] at HM9
    dsimp only at HM9
    have hfin : (q9 = false ∧ O = some (⟨n, es, ds⟩, a9)) ∨ (q9 = true ∧ O = none) := by
      cases e : q8 with
      | true =>
        rw [e, mustF_bad] at hp9
        injection hp9 with _ hp9
        exact .inr ⟨hp9, hc8.out.2 e⟩
      | false =>
        rw [e] at hp9
        rcases (must_b hp9).2 rfl with ⟨g1, e0, e1⟩ | ⟨g1, e1⟩
        · refine .inl ⟨e1, ?_⟩
          rw [hc8.out.1 e, tailO, if_pos g1, e0]; rfl
        · exact .inr ⟨e1, by rw [hc8.out.1 e, tailO, if_neg (by rw [g1]; decide)]⟩
    clear hp9 hc8
    go_wp2_with fail
    refine (HM9.out).mono ?_
    rintro e w9 ⟨rfl, r9, m9⟩
    replace h := h.step r9 m9
    clear r9 m9 HM9
    obtain ⟨c0, c1, c2, f1, f2⟩ := h.sc.cells
    have hbx := h.hb
    rcases hfin with ⟨e, hn⟩ | ⟨e, hn⟩
    case inr =>
      subst e
      replace hn := Aside0.mk hn
      go_upto_region 15 with fail
      clear c0 c1 c2 f1 f2 h
      obtain ⟨r0, r1, r2, f0, f1, f2⟩ := cells3 (RG.out _ hbx)
      go_wp2
      obtain ⟨X1, hX1, hXg1, hXm1⟩ := put3_0 (RG.out _ hbx) (.string ⟨#[]⟩)
      obtain ⟨X2, hX2, hXg2, hXm2⟩ := put3_1 hXg1 (.slice none 0 0)
      obtain ⟨X, hX, hXg, hXm3⟩ := put3_2 hXg2 (.slice none 0 0)
      have hXm := (hXm1.trans hXm2).trans hXm3
      rw [← hX1, ← hX2, ← hX]
      clear hX hX1 hX2 hXg1 hXg2 hXm1 hXm2 hXm3 r0 r1 r2 f0 f1 f2
      obtain ⟨p0, p1, p2, _⟩ := cells3 hXg
      refine bodyPost_ret (v := .tuple #[.agg #[.string ⟨#[]⟩, .slice none 0 0, .slice none 0 0], .int .i64 0, .bool false]) ?hres rfl (HdOut.none hn.out (below_moved (HB.out _ hbx) hXm (Nat.le_refl _)))
      case hres => simp [results, Tryz.results23, go_sem, p0, p1, p2]
    subst e
    replace hn := Aside0.mk hn
    obtain ⟨AE, cE, hvE, _⟩ := h.hd.ents
    obtain ⟨AD, cD, hvD, _⟩ := h.hd.defs
    subst hvE hvD
    obtain ⟨e0, e1, e2, _⟩ := h.hd.cells
    obtain ⟨r0, r1, r2, f0, f1', f2'⟩ := cells3 (RG.out _ hbx)
    go_upto_region 16 with fail
    have hrw : r = w.heap.size + 1 := Hr.out
    have hgr : r ≤ g := h.hg
    have z1 : w.heap.size ≠ r := by omega
    have z2 : w.heap.size ≠ g := by omega
    have hwr : w.heap.size < g + 1 := by omega
    clear hrw hgr
    go_region_held3 (fun W => W.cell? ⟨r, 1, none⟩ = some (.int .i64 (a9 : Nat)) ∧ W.cell? ⟨g, 0, none⟩ = some (.string n) ∧ W.cell? ⟨g, 1, none⟩ = some (.slice AE es.length cE) ∧ W.cell? ⟨g, 2, none⟩ = some (.slice AD ds.length cD)) (go_keep) (first | fail)
    all_goals
      obtain ⟨X1, hX1, hXg1, hXm1⟩ := put3_0 (RG.out _ hbx) (.string n)
      obtain ⟨X2, hX2, hXg2, hXm2⟩ := put3_1 hXg1 (.slice AE es.length cE)
      obtain ⟨X, hX, hXg, hXm3⟩ := put3_2 hXg2 (.slice AD ds.length cD)
      have hXm := (hXm1.trans hXm2).trans hXm3
      rw [← hX1, ← hX2, ← hX]
      clear hX hX1 hX2 hXg1 hXg2 hXm1 hXm2 hXm3 r0 r1 r2 f0 f1' f2' e0 e1 e2 c0 c1 c2 f1 f2
      have hfin := Aside0.mk (HdOut.some hn.out rfl (Nat.le_of_lt hwr) (own_below (hown_moved h.hd.hE hXm hwr) (below_drew (Below.refl X.heap.size X))) (own_below (hown_moved h.hd.hD hXm hwr) (below_drew (Below.refl X.heap.size X))) h.hd.ne (below_then (below_moved (HB.out _ hbx) hXm (Nat.le_refl _)) (below_drew (Below.refl X.heap.size X))))
      clear h hbx
      obtain ⟨p0, p1, p2, _⟩ := cells3 (show X.drew.heap[w.heap.size]? = _ from hXg)
      go_wp2_with fail
      refine bodyPost_ret (v := .tuple #[.agg #[.string n, .slice AE es.length cE, .slice AD ds.length cD], .int .i64 (a9 : Nat), .bool true]) ?hres rfl hfin.out
      case hres => simp [results, Tryz.results23, go_sem, p0, p1, p2]
end Go.Proofs.YtmfkdgdamepbcaaGreatDoor
end
