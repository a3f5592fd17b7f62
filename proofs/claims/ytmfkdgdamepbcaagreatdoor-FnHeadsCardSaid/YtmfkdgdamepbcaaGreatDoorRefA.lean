/- Joined: MkS, MkS2, MkS3. -/
import Derived.Test.YtmfkdgdamepbcaaGreatDoorMkB
section
/- The reference's l6Name, l6Told. -/
namespace Go.Proofs.YtmfkdgdamepbcaaGreatDoor
open Go.RowKit Go.Lib
set_option linter.unusedVariables false
set_option linter.unusedSimpArgs false
set_option maxHeartbeats 4000000
set_option maxRecDepth 20000
theorem l6Name_calls (s : ByteArray) (a : Nat) (w : World) (hs : s.size ≤ 1000000000) (ha : a ≤ s.size) :
    Calls Tryz.prog 89 #[.string s, .int .i64 (a : Int)] w fun e w' => e = .returned (tnV (nameO s a)) ∧ Below w.heap.size w w' := by
  obtain ⟨R, hR⟩ : ∃ R, R = nameO s a := ⟨_, rfl⟩
  rw [← hR]
  have HN := Aside0.mk (specNameAt_calls s a w hs ha)
  obtain ⟨k, hk⟩ : ∃ k, k = nameEnd s a := ⟨_, rfl⟩
  rw [← hk] at HN
  obtain ⟨n, hn⟩ : ∃ n, n = s.extract a k := ⟨_, rfl⟩
  rw [← hn] at HN
  have HS := Aside0.mk (fun W => specSplitName_calls n W (by rw [hn, ByteArray.size_extract]; omega))
  have hv : R = if (splitName n).isSome = true then some (n, k) else none := by rw [hR, nameO, ← hk, ← hn]
  clear hR hk hn
  cases hq : splitName n with
  | none =>
    have hfin := Aside0.mk (show tnV R = .tuple #[.string ⟨#[]⟩, .int .i64 (-1)] by rw [hv, hq]; rfl)
    rw [hq] at HS
    clear hq hv
    go_enter Tryz.func89, Tryz.ntmps89
    go_wp2_with fail
    refine (HN.out).mono ?_
    rintro e w1 ⟨rfl, hb1⟩
    go_wp2_with fail
    refine (HS.out _).mono ?_
    rintro e w2 ⟨rfl, hb2⟩
    simp only [snV]
    go_wp2
    go_ret2
    exact ⟨by rw [hfin.out]; rfl, below_then hb1 hb2⟩
  | some q =>
    obtain ⟨q1, q2⟩ := q
    have hfin := Aside0.mk (show tnV R = .tuple #[.string n, .int .i64 (k : Nat)] by rw [hv, hq]; rfl)
    rw [hq] at HS
    clear hq hv
    go_enter Tryz.func89, Tryz.ntmps89
    go_wp2_with fail
    refine (HN.out).mono ?_
    rintro e w1 ⟨rfl, hb1⟩
    go_wp2_with fail
    refine (HS.out _).mono ?_
    rintro e w2 ⟨rfl, hb2⟩
    simp only [snV]
    go_wp2
    go_ret2
    exact ⟨by rw [hfin.out]; rfl, below_then hb1 hb2⟩
theorem l6Told_calls (s : ByteArray) (a : Nat) (w : World) (hs : s.size ≤ 1000000000) (ha : a + 2 ≤ s.size) : Calls Tryz.prog 88 #[.string s, .int .i64 (a : Int)] w (MkOut w (toldO s (a + 2))) := by
  obtain ⟨R, hR⟩ : ∃ R, R = toldO s (a + 2) := ⟨_, rfl⟩
  rw [← hR]
  obtain ⟨W, hW, HB0, hsz, HG⟩ := boxed w #[.int .i64 0, .string ⟨#[]⟩, .slice none 0 0, .bool false, .string ⟨#[]⟩] 29
  have HW := Aside0.mk hW
  have RG := Aside0.mk (fun W1 (hb : Below W.heap.size W W1) => (hb.block _ hsz).trans HG)
  have HB := Aside0.mk HB0
  have HN := Aside0.mk (fun W => l6Name_calls s (a + 2) W hs ha)
  rw [show ((a + 2 : Nat) : Int) = (a : Int) + 2 from rfl] at HN
  clear hW HG HB0 hsz
  cases hq : nameO s (a + 2) with
  | none =>
    have hfin := Aside0.mk (show R = none by rw [hR, toldO, hq]; rfl)
    rw [hq] at HN
    clear hq hR
    go_enter Tryz.func88, Tryz.ntmps88
    go_upto_region 1 with fail
    rw [← HW.out]
    go_wp2_with fail
    refine (HN.out _).mono ?_
    rintro e w1 ⟨rfl, hb1⟩
    simp only [tnV]
    obtain ⟨r0, r1, r2, r3, r4, f0, f1, f2, f3, f4⟩ := cells5 (RG.out _ hb1)
    go_wp2
    obtain ⟨X, hX, hXg, hXm⟩ := out5 (RG.out _ hb1) (.int .i64 0) (.string ⟨#[]⟩) (.slice none 0 0) (.bool false) (.string ⟨#[]⟩)
    rw [← hX]
    clear hX r0 r1 r2 r3 r4 f0 f1 f2 f3 f4
    obtain ⟨p0, p1, p2, p3, p4, _⟩ := cells5 hXg
    refine bodyPost_ret (v := .tuple #[.agg #[.int .i64 0, .string ⟨#[]⟩, .slice none 0 0, .bool false, .string ⟨#[]⟩], .int .i64 (-1)]) ?hres rfl (MkOut.none hfin.out _ _ _ _ (below_moved (below_then HB.out hb1) hXm (Nat.le_refl _)))
    case hres => simp [results, Tryz.results88, go_sem, p0, p1, p2, p3, p4]
  | some q =>
    obtain ⟨n, k⟩ := q
    have hn := nameO_next ha hq
    rw [hq] at HN
    have HT := Aside0.mk (show R = if isAtB s ⟨#[63, 62]⟩ (k : Nat) = true then some (⟨5, n, [], false, ⟨#[]⟩⟩, k + 2)
      else if blanksN s k = k then none
      else (toO s ⟨#[63, 62]⟩ (blanksN s k)).map fun q => (⟨5, n, [], false, q.1⟩, q.2) by rw [hR, toldO, hq]; rfl)
    have HI := Aside0.mk (fun W => l6Is_calls s ⟨#[63, 62]⟩ k W hs (by decide) (by omega) (by omega))
    have HBl := Aside0.mk (fun W => specBlanks_calls s k W hs (by omega))
    rw [show blanksI s k = ((blanksN s k : Nat) : Int) by rw [blanksI, if_neg (by omega), Int.toNat_natCast]] at HBl
    have hbl := blanksN_le s k
    have HTo := Aside0.mk (fun W => l6To_calls s ⟨#[63, 62]⟩ (blanksN s k) W hs (by omega) (by decide) (by decide))
    rw [toV_is] at HTo
    obtain ⟨b, hb⟩ : ∃ b, b = blanksN s k := ⟨_, rfl⟩
    obtain ⟨o, ho⟩ : ∃ o, o = toO s ⟨#[63, 62]⟩ b := ⟨_, rfl⟩
    rw [← hb] at HBl hbl HTo HT
    rw [← ho] at HTo HT
    clear hq hR ho hb
    cases hi : isAtB s ⟨#[63, 62]⟩ (k : Nat) with
    | true =>
      have hfin := Aside0.mk (show R = some (⟨5, n, [], false, ⟨#[]⟩⟩, k + 2) by rw [HT.out, if_pos hi])
      rw [hi] at HI
      clear hi HT
      go_enter Tryz.func88, Tryz.ntmps88
      go_upto_region 1 with fail
      rw [← HW.out]
      go_wp2_with fail
      refine (HN.out _).mono ?_
      rintro e w1 ⟨rfl, hb1⟩
      simp only [tnV]
      obtain ⟨W2, hW2, HB2, hsz2, HG2⟩ := boxed w1 #[.int .i64 5, .string n, .slice none 0 0, .bool false, .string ⟨#[]⟩] 29
      have hb2 := below_then hb1 HB2
      have hgm := hb1.size
      obtain ⟨m0, m1, m2, m3, m4, n0, n1, n2, n3, n4⟩ := cells5 HG2
      have HW2 := Aside0.mk hW2
      have HG2 := Aside0.mk HG2
      clear hW2
      go_upto_region 5 with fail
      rw [← HW2.out]
      go_wp2_with fail
      refine (HI.out _).mono ?_
      rintro e w3 ⟨rfl, rfl⟩
      obtain ⟨r0, r1, r2, r3, r4, f0, f1, f2, f3, f4⟩ := cells5 (RG.out _ hb2)
      go_wp2
      obtain ⟨X, hX, hXg, hXm⟩ := out5 (RG.out _ hb2) (.int .i64 5) (.string n) (.slice none 0 0) (.bool false) (.string ⟨#[]⟩)
      rw [← hX]
      clear hX r0 r1 r2 r3 r4 f0 f1 f2 f3 f4
      obtain ⟨p0, p1, p2, p3, p4, _⟩ := cells5 hXg
      refine bodyPost_ret (v := .tuple #[.agg #[.int .i64 5, .string n, .slice none 0 0, .bool false, .string ⟨#[]⟩], .int .i64 ((k : Nat) + 2)]) ?hres rfl (MkOut.at hfin.out (by omega) (below_moved (below_then HB.out hb2) hXm (Nat.le_refl _)))
      case hres => simp [results, Tryz.results88, go_sem, p0, p1, p2, p3, p4]
    | false =>
      have HT := Aside0.mk (HT.out.trans (if_neg (by rw [hi]; simp)))
      rw [hi] at HI
      clear hi
      by_cases hbk : b = k
      · have hfin := Aside0.mk (HT.out.trans (if_pos hbk))
        have hne : ((b : Int) == (k : Int)) = true := by simp [hbk]
        clear hbk HT
        go_enter Tryz.func88, Tryz.ntmps88
        go_upto_region 1 with fail
        rw [← HW.out]
        go_wp2_with fail
        refine (HN.out _).mono ?_
        rintro e w1 ⟨rfl, hb1⟩
        simp only [tnV]
        obtain ⟨W2, hW2, HB2, hsz2, HG2⟩ := boxed w1 #[.int .i64 5, .string n, .slice none 0 0, .bool false, .string ⟨#[]⟩] 29
        have hb2 := below_then hb1 HB2
        have hgm := hb1.size
        obtain ⟨m0, m1, m2, m3, m4, n0, n1, n2, n3, n4⟩ := cells5 HG2
        have HW2 := Aside0.mk hW2
        have HG2 := Aside0.mk HG2
        clear hW2
        go_upto_region 5 with fail
        rw [← HW2.out]
        go_wp2_with fail
        refine (HI.out _).mono ?_
        rintro e w3 ⟨rfl, rfl⟩
        go_wp2_with fail
        refine (HBl.out _).mono ?_
        rintro e w3 ⟨rfl, rfl⟩
        obtain ⟨r0, r1, r2, r3, r4, f0, f1, f2, f3, f4⟩ := cells5 (RG.out _ hb2)
        go_wp2
        obtain ⟨X, hX, hXg, hXm⟩ := out5 (RG.out _ hb2) (.int .i64 0) (.string ⟨#[]⟩) (.slice none 0 0) (.bool false) (.string ⟨#[]⟩)
        rw [← hX]
        clear hX r0 r1 r2 r3 r4 f0 f1 f2 f3 f4
        obtain ⟨p0, p1, p2, p3, p4, _⟩ := cells5 hXg
        refine bodyPost_ret (v := .tuple #[.agg #[.int .i64 0, .string ⟨#[]⟩, .slice none 0 0, .bool false, .string ⟨#[]⟩], .int .i64 (-1)]) ?hres rfl (MkOut.none hfin.out _ _ _ _ (below_moved (below_then HB.out hb2) hXm (Nat.le_refl _)))
        case hres => simp [results, Tryz.results88, go_sem, p0, p1, p2, p3, p4]
      · have HT := Aside0.mk (HT.out.trans (if_neg hbk))
        have hne : ((b : Int) == (k : Int)) = false := by simp; omega
        clear hbk
        cases o with
        | none =>
          have hfin := Aside0.mk (show R = none from HT.out)
          clear HT
          go_enter Tryz.func88, Tryz.ntmps88
          go_upto_region 1 with fail
          rw [← HW.out]
          go_wp2_with fail
          refine (HN.out _).mono ?_
          rintro e w1 ⟨rfl, hb1⟩
          simp only [tnV]
          obtain ⟨W2, hW2, HB2, hsz2, HG2⟩ := boxed w1 #[.int .i64 5, .string n, .slice none 0 0, .bool false, .string ⟨#[]⟩] 29
          have hb2 := below_then hb1 HB2
          have hgm := hb1.size
          obtain ⟨m0, m1, m2, m3, m4, n0, n1, n2, n3, n4⟩ := cells5 HG2
          have HW2 := Aside0.mk hW2
          have HG2 := Aside0.mk HG2
          clear hW2
          go_upto_region 5 with fail
          rw [← HW2.out]
          go_wp2_with fail
          refine (HI.out _).mono ?_
          rintro e w3 ⟨rfl, rfl⟩
          go_wp2_with fail
          refine (HBl.out _).mono ?_
          rintro e w3 ⟨rfl, rfl⟩
          go_wp2_with fail
          refine (HTo.out _).mono ?_
          rintro e w3 ⟨rfl, rfl⟩
          simp only [tnV]
          go_upto_region 12 with fail
          obtain ⟨X2, hX2, HGX, hXm2⟩ := put5_4 HG2.out (.string ⟨#[]⟩)
          rw [← hX2]
          have hb3 := below_moved hb2 hXm2 hgm
          clear m0 m1 m2 m3 m4 n0 n1 n2 n3 n4 hX2
          obtain ⟨m0, m1, m2, m3, m4, n0, n1, n2, n3, n4⟩ := cells5 HGX
          obtain ⟨r0, r1, r2, r3, r4, f0, f1, f2, f3, f4⟩ := cells5 (RG.out _ hb3)
          go_wp2
          obtain ⟨X, hX, hXg, hXm⟩ := out5 (RG.out _ hb3) (.int .i64 5) (.string n) (.slice none 0 0) (.bool false) (.string ⟨#[]⟩)
          rw [← hX]
          clear hX r0 r1 r2 r3 r4 f0 f1 f2 f3 f4
          obtain ⟨p0, p1, p2, p3, p4, _⟩ := cells5 hXg
          refine bodyPost_ret (v := .tuple #[.agg #[.int .i64 5, .string n, .slice none 0 0, .bool false, .string ⟨#[]⟩], .int .i64 (-1)]) ?hres rfl (MkOut.none hfin.out _ _ _ _ (below_moved (below_then HB.out hb3) hXm (Nat.le_refl _)))
          case hres => simp [results, Tryz.results88, go_sem, p0, p1, p2, p3, p4]
        | some q =>
          obtain ⟨t, nx⟩ := q
          have hfin := Aside0.mk (show R = some (⟨5, n, [], false, t⟩, nx) from HT.out)
          clear HT
          go_enter Tryz.func88, Tryz.ntmps88
          go_upto_region 1 with fail
          rw [← HW.out]
          go_wp2_with fail
          refine (HN.out _).mono ?_
          rintro e w1 ⟨rfl, hb1⟩
          simp only [tnV]
          obtain ⟨W2, hW2, HB2, hsz2, HG2⟩ := boxed w1 #[.int .i64 5, .string n, .slice none 0 0, .bool false, .string ⟨#[]⟩] 29
          have hb2 := below_then hb1 HB2
          have hgm := hb1.size
          obtain ⟨m0, m1, m2, m3, m4, n0, n1, n2, n3, n4⟩ := cells5 HG2
          have HW2 := Aside0.mk hW2
          have HG2 := Aside0.mk HG2
          clear hW2
          go_upto_region 5 with fail
          rw [← HW2.out]
          go_wp2_with fail
          refine (HI.out _).mono ?_
          rintro e w3 ⟨rfl, rfl⟩
          go_wp2_with fail
          refine (HBl.out _).mono ?_
          rintro e w3 ⟨rfl, rfl⟩
          go_wp2_with fail
          refine (HTo.out _).mono ?_
          rintro e w3 ⟨rfl, rfl⟩
          simp only [tnV]
          go_upto_region 12 with fail
          obtain ⟨X2, hX2, HGX, hXm2⟩ := put5_4 HG2.out (.string t)
          rw [← hX2]
          have hb3 := below_moved hb2 hXm2 hgm
          clear m0 m1 m2 m3 m4 n0 n1 n2 n3 n4 hX2
          obtain ⟨m0, m1, m2, m3, m4, n0, n1, n2, n3, n4⟩ := cells5 HGX
          obtain ⟨r0, r1, r2, r3, r4, f0, f1, f2, f3, f4⟩ := cells5 (RG.out _ hb3)
          go_wp2
          obtain ⟨X, hX, hXg, hXm⟩ := out5 (RG.out _ hb3) (.int .i64 5) (.string n) (.slice none 0 0) (.bool false) (.string t)
          rw [← hX]
          clear hX r0 r1 r2 r3 r4 f0 f1 f2 f3 f4
          obtain ⟨p0, p1, p2, p3, p4, _⟩ := cells5 hXg
          refine bodyPost_ret (v := .tuple #[.agg #[.int .i64 5, .string n, .slice none 0 0, .bool false, .string t], .int .i64 (nx)]) ?hres rfl (MkOut.at hfin.out (by omega) (below_moved (below_then HB.out hb3) hXm (Nat.le_refl _)))
          case hres => simp [results, Tryz.results88, go_sem, p0, p1, p2, p3, p4]
end Go.Proofs.YtmfkdgdamepbcaaGreatDoor
end
section
/- The reference's l6Raw. -/
namespace Go.Proofs.YtmfkdgdamepbcaaGreatDoor
open Go.RowKit Go.Lib
set_option linter.unusedVariables false
set_option linter.unusedSimpArgs false
set_option maxHeartbeats 0
set_option maxRecDepth 100000
theorem l6Raw_calls {ok : Nat → Prop} (s : ByteArray) (a : Nat) (A : Option Addr) (c : Nat) (l : List Dcl) (w : World) (hr : Row Kd.dcl w ok A l) (hs : s.size ≤ 1000000000) (ha : a ≤ s.size) (hz : ∀ d ∈ l, d.pre.size ≤ 1048576 ∧ d.uri.size ≤ 1048576) :
    Calls Tryz.prog 124 #[.string s, .int .i64 (a : Int), .slice A l.length c] w (RwOut w (rawO s a l)) := by
  obtain ⟨R, hR⟩ : ∃ R, R = rawO s a l := ⟨_, rfl⟩
  rw [← hR]
  obtain ⟨W, hW, HB0, hsz, HG⟩ := boxed w #[.string ⟨#[]⟩, .string ⟨#[]⟩] 33
  have HW := Aside0.mk hW
  have RG := Aside0.mk (fun W1 (hb : Below W.heap.size W W1) => (hb.block _ hsz).trans HG)
  have HB := Aside0.mk HB0
  have HX := Aside0.mk (fun v W1 (hb : Below W.heap.size W W1) (hv : v.size ≤ 1000000000) => specExpand_calls v A c l W1 (hr.below (below_then HB0 hb)) hv hz)
  have HN := Aside0.mk (fun W => l6Name_calls s a W hs ha)
  clear hW HG HB0 hsz hr hz
  cases hq : nameO s a with
  | none =>
    have hfin := Aside0.mk (show R = none by rw [hR, rawO, hq]; rfl)
    rw [hq] at HN
    clear hq hR
    go_enter Tryz.func124, Tryz.ntmps124
    go_upto_region 1 with fail
    rw [← HW.out]
    go_wp2_with fail
    refine (HN.out _).mono ?_
    rintro e w1 ⟨rfl, hb1⟩
    simp only [tnV]
    obtain ⟨r0, r1, f0, f1⟩ := cells2 (RG.out _ hb1)
    go_wp2
    obtain ⟨X, hX, hXg, hXm⟩ := out2 (RG.out _ hb1) (.string (⟨#[]⟩)) (.string (⟨#[]⟩))
    rw [← hX]
    clear hX r0 r1 f0 f1
    obtain ⟨p0, p1, _⟩ := cells2 hXg
    refine bodyPost_ret (v := .tuple #[.agg #[.string (⟨#[]⟩), .string (⟨#[]⟩)], .int .i64 (-1)]) ?hres rfl (RwOut.none hfin.out _ _ (below_moved (below_then HB.out hb1) hXm (Nat.le_refl _)))
    case hres => simp [results, Tryz.results124, go_sem, p0, p1]
  | some q =>
  obtain ⟨n, k⟩ := q
  have hn := nameO_next ha hq
  rw [hq] at HN
  have HT := Aside0.mk (show R = if isAtB s ⟨#[61]⟩ (blanksN s k : Nat) = true then
    (quoO s (blanksN s (blanksN s k + 1))).bind fun q => (expandV (spacedB q.1) l).map fun x => (⟨n, x⟩, q.2) else none by rw [hR, rawO, hq]; rfl)
  clear hq hR
  have hbl := blanksN_le s k
  obtain ⟨b1, hb1⟩ : ∃ b1, b1 = blanksN s k := ⟨_, rfl⟩
  have HBl := Aside0.mk (fun W => specBlanks_calls s k W hs (by omega))
  rw [show blanksI s k = ((blanksN s k : Nat) : Int) by rw [blanksI, if_neg (by omega), Int.toNat_natCast], ← hb1] at HBl
  rw [← hb1] at HT hbl
  have HI := Aside0.mk (fun W => l6Is_calls s ⟨#[61]⟩ b1 W hs (by decide) (by omega) (by omega))
  clear hb1
  cases hi : isAtB s ⟨#[61]⟩ (b1 : Nat) with
  | false =>
    have hfin := Aside0.mk (show R = none by rw [HT.out, if_neg (by rw [hi]; simp)])
    rw [hi] at HI
    clear hi HT
    go_enter Tryz.func124, Tryz.ntmps124
    go_upto_region 1 with fail
    rw [← HW.out]
    go_wp2_with fail
    refine (HN.out _).mono ?_
    rintro e w1 ⟨rfl, hb1⟩
    simp only [tnV]
    go_wp2_with fail
    refine (HBl.out _).mono ?_
    rintro e w2 ⟨rfl, rfl⟩
    go_wp2_with fail
    refine (HI.out _).mono ?_
    rintro e w2 ⟨rfl, rfl⟩
    obtain ⟨r0, r1, f0, f1⟩ := cells2 (RG.out _ hb1)
    go_wp2
    obtain ⟨X, hX, hXg, hXm⟩ := out2 (RG.out _ hb1) (.string (⟨#[]⟩)) (.string (⟨#[]⟩))
    rw [← hX]
    clear hX r0 r1 f0 f1
    obtain ⟨p0, p1, _⟩ := cells2 hXg
    refine bodyPost_ret (v := .tuple #[.agg #[.string (⟨#[]⟩), .string (⟨#[]⟩)], .int .i64 (-1)]) ?hres rfl (RwOut.none hfin.out _ _ (below_moved (below_then HB.out hb1) hXm (Nat.le_refl _)))
    case hres => simp [results, Tryz.results124, go_sem, p0, p1]
  | true =>
  have hroom := isAt_room hi
  have HT := Aside0.mk (HT.out.trans (if_pos hi))
  rw [hi] at HI
  clear hi
  have hroom : b1 + 1 ≤ s.size := hroom
  have hbl2 := blanksN_le s (b1 + 1)
  obtain ⟨b2, hb2⟩ : ∃ b2, b2 = blanksN s (b1 + 1) := ⟨_, rfl⟩
  have HBk := Aside0.mk (fun W => specBlanks_calls s ((b1 + 1 : Nat) : Int) W hs (by omega))
  rw [show blanksI s ((b1 + 1 : Nat) : Int) = ((blanksN s (b1 + 1) : Nat) : Int) by rw [blanksI, if_neg (by omega), Int.toNat_natCast], ← hb2, show ((b1 + 1 : Nat) : Int) = (b1 : Int) + 1 from rfl] at HBk
  rw [← hb2] at HT hbl2
  have HI1 := Aside0.mk (fun W => l6Is_calls s ⟨#[34]⟩ b2 W hs (by decide) (by omega) (by omega))
  have HI2 := Aside0.mk (fun W => l6Is_calls s ⟨#[39]⟩ b2 W hs (by decide) (by omega) (by omega))
  clear hb2
  have hqu := Aside0.mk (show quoO s b2 = if isAtB s ⟨#[34]⟩ (b2 : Nat) = true ∨ isAtB s ⟨#[39]⟩ (b2 : Nat) = true then (toO s (s.extract b2 (b2 + 1)) (b2 + 1)).bind fun q => if hasB q.1 [60] = true then none else some q else none from rfl)
  cases hi1 : isAtB s ⟨#[34]⟩ (b2 : Nat) with
  | true =>
    have hii : isAtB s ⟨#[34]⟩ (b2 : Nat) = true ∨ isAtB s ⟨#[39]⟩ (b2 : Nat) = true := .inl hi1
    have hroom2 : b2 + 1 ≤ s.size := isAt_room hi1
    rw [hi1] at HI1
    clear hi1
    obtain ⟨qt, hqt⟩ : ∃ qt, qt = s.extract b2 (b2 + 1) := ⟨_, rfl⟩
    have hqz : qt.size = 1 := by rw [hqt, ByteArray.size_extract]; omega
    have HTo := Aside0.mk (fun W => l6To_calls s qt (b2 + 1) W hs (by omega) (by omega) (by omega))
    rw [toV_is, show ((b2 + 1 : Nat) : Int) = (b2 : Int) + 1 from rfl, hqt] at HTo
    cases ho : toO s (s.extract b2 (b2 + 1)) (b2 + 1) with
    | none =>
      have hfin := Aside0.mk (show R = none by rw [HT.out, hqu.out, if_pos hii, ho]; rfl)
      rw [ho] at HTo
      clear ho HT hqu hii hqt hqz
      go_enter Tryz.func124, Tryz.ntmps124
      go_upto_region 1 with fail
      rw [← HW.out]
      go_wp2_with fail
      refine (HN.out _).mono ?_
      rintro e w1 ⟨rfl, hb1⟩
      simp only [tnV]
      go_wp2_with fail
      refine (HBl.out _).mono ?_
      rintro e w2 ⟨rfl, rfl⟩
      go_wp2_with fail
      refine (HI.out _).mono ?_
      rintro e w2 ⟨rfl, rfl⟩
      go_wp2_with fail
      refine (HBk.out _).mono ?_
      rintro e w2 ⟨rfl, rfl⟩
      go_wp2_with fail
      refine (HI1.out _).mono ?_
      rintro e w2 ⟨rfl, rfl⟩
      try (go_wp2_with fail; refine (HI2.out _).mono ?_; rintro e w2 ⟨rfl, rfl⟩)
      go_wp2_with fail
      refine (HTo.out _).mono ?_
      rintro e w2 ⟨rfl, rfl⟩
      simp only [tnV]
      obtain ⟨v, hv⟩ : ∃ v : ByteArray, v = ⟨#[]⟩ := ⟨_, rfl⟩
      have hvz : v.size ≤ 1000000000 := by rw [hv]; decide
      rw [← hv]
      clear hv
      have hbx : Below W.heap.size W w1 := hb1
      have hcv := @Lib.run_convert_string_bytes Tryz.prog w1 9 22 5 v _ Tryz.underlying9 Tryz.underlying22 Tryz.underlying5
      have hsp := Aside0.mk (sp_start w1 5 v)
      have hwbb := Aside0.mk (below_bytes2 w1 5 v)
      go_wp2
      generalize Lib.bytesWorld w1 5 v = wb at hsp hwbb ⊢
      generalize grownCap w1 v.size 0 5 = cb
      clear hcv
      go_loopg [13] v.size (fun k i wr => ∃ j : Nat, i = .int .i64 j ∧ j + k = v.size ∧ SpAt w1.heap.size v wb j wr)
      case atStart => exact ⟨0, rfl, by omega, hsp.out⟩
      case round =>
        obtain ⟨j, rfl, hk, ha⟩ := hrel
        by_cases hlt : j < v.size
        · have hc := ha.left j (Nat.le_refl _) hlt
          have hf := ha.free j hlt
          have HA := Aside0.mk ha
          have hsy := Aside0.mk (fun h => spB_yes (b := v[j]'hlt) h)
          have hsn := Aside0.mk (fun h => spB_no (b := v[j]'hlt) h)
          obtain ⟨x, hx⟩ : ∃ x : Nat, (v[j]'hlt).toNat = x := ⟨_, rfl⟩
          have hx256 : x < 256 := by rw [← hx]; exact UInt8.toNat_lt _
          rw [hx] at hc hsy hsn
          have HI := Aside0.mk (fun W => specIsBlank_calls (x : Nat) W)
          clear ha hx
          cases hq : isBlank (x : Nat) with
          | true =>
            have hnx := Aside0.mk (HA.out.put hlt (hsy.out hq))
            rw [hq] at HI
            clear hq hsy hsn
            go_wp2_with fail
            refine (HI.out _).mono ?_
            rintro e w2 ⟨rfl, rfl⟩
            go_wp2
            go_roundg (gk - 1)
            case measure => omega
            case rel => exact ⟨j + 1, by go_num, by omega, hnx.out⟩
          | false =>
            have hnx := Aside0.mk (HA.out.keep hlt (hsn.out hq))
            rw [hq] at HI
            clear hq hsy hsn
            go_wp2_with fail
            refine (HI.out _).mono ?_
            rintro e w2 ⟨rfl, rfl⟩
            go_wp2
            go_roundg (gk - 1)
            case measure => omega
            case rel => exact ⟨j + 1, by go_num, by omega, hnx.out⟩
        · obtain rfl : j = v.size := by omega
          have hcv := ha.text (c := cb)
          have hbr := below_then hbx (below_moved hwbb.out ha.moved (Nat.le_refl _))
          have HXv := Aside0.mk (HX.out (spacedB v) wr hbr (by rw [spaced_size]; omega))
          clear ha hsp hlt hk
          obtain ⟨ex, hex⟩ : ∃ ex, ex = expandV (spacedB v) l := ⟨_, rfl⟩
          rw [← hex] at HXv
          have hex := Aside0.mk hex
          obtain ⟨sv, hsv⟩ : ∃ sv, sv = spacedB v := ⟨_, rfl⟩
          rw [← hsv] at HXv hcv
          clear hsv
          go_wp2_with fail
          refine (HXv.out).mono ?_
          rintro e w3 ⟨rfl, hb3⟩
          have hb3 := below_then hbr hb3
          clear hcv
          cases ex with
          | none =>
            simp only [optV]
            obtain ⟨r0, r1, f0, f1⟩ := cells2 (RG.out _ hb3)
            go_wp2
            obtain ⟨X, hX, hXg, hXm⟩ := out2 (RG.out _ hb3) (.string (⟨#[]⟩)) (.string (⟨#[]⟩))
            rw [← hX]
            clear hX r0 r1 f0 f1
            obtain ⟨p0, p1, _⟩ := cells2 hXg
            refine bodyPost_ret (v := .tuple #[.agg #[.string (⟨#[]⟩), .string (⟨#[]⟩)], .int .i64 (-1)]) ?hres rfl (RwOut.none hfin.out _ _ (below_moved (below_then HB.out hb3) hXm (Nat.le_refl _)))
            case hres => simp [results, Tryz.results124, go_sem, p0, p1]
          | some xv =>
            simp only [optV]
            obtain ⟨r0, r1, f0, f1⟩ := cells2 (RG.out _ hb3)
            go_wp2
            obtain ⟨X, hX, hXg, hXm⟩ := out2 (RG.out _ hb3) (.string (⟨#[]⟩)) (.string (⟨#[]⟩))
            rw [← hX]
            clear hX r0 r1 f0 f1
            obtain ⟨p0, p1, _⟩ := cells2 hXg
            refine bodyPost_ret (v := .tuple #[.agg #[.string (⟨#[]⟩), .string (⟨#[]⟩)], .int .i64 (-1)]) ?hres rfl (RwOut.none hfin.out _ _ (below_moved (below_then HB.out hb3) hXm (Nat.le_refl _)))
            case hres => simp [results, Tryz.results124, go_sem, p0, p1]
    | some q =>
      obtain ⟨v, nx⟩ := q
      have hnx := toO_next (by omega) ho
      have hvz : v.size ≤ 1000000000 := by omega
      have HV := Aside0.mk (show R = if hasB v [60] = true then none else (expandV (spacedB v) l).map fun x => (⟨n, x⟩, nx) by
        rw [HT.out, hqu.out, if_pos hii, ho]
        simp only [Option.bind_some]
        split <;> rfl)
      rw [ho] at HTo
      clear ho HT hqu hii hqt hqz
      have HH := Aside0.mk (fun W => l5Has_calls v ⟨#[60]⟩ W hvz (by decide) (by decide))
      rw [show hasB v (⟨#[60]⟩ : ByteArray).data.toList = hasB v [60] from rfl] at HH
      go_enter Tryz.func124, Tryz.ntmps124
      go_upto_region 1 with fail
      rw [← HW.out]
      go_wp2_with fail
      refine (HN.out _).mono ?_
      rintro e w1 ⟨rfl, hb1⟩
      simp only [tnV]
      go_wp2_with fail
      refine (HBl.out _).mono ?_
      rintro e w2 ⟨rfl, rfl⟩
      go_wp2_with fail
      refine (HI.out _).mono ?_
      rintro e w2 ⟨rfl, rfl⟩
      go_wp2_with fail
      refine (HBk.out _).mono ?_
      rintro e w2 ⟨rfl, rfl⟩
      go_wp2_with fail
      refine (HI1.out _).mono ?_
      rintro e w2 ⟨rfl, rfl⟩
      try (go_wp2_with fail; refine (HI2.out _).mono ?_; rintro e w2 ⟨rfl, rfl⟩)
      go_wp2_with fail
      refine (HTo.out _).mono ?_
      rintro e w2 ⟨rfl, rfl⟩
      simp only [tnV]
      have hbx : Below W.heap.size W w1 := hb1
      have hcv := @Lib.run_convert_string_bytes Tryz.prog w1 9 22 5 v _ Tryz.underlying9 Tryz.underlying22 Tryz.underlying5
      have hsp := Aside0.mk (sp_start w1 5 v)
      have hwbb := Aside0.mk (below_bytes2 w1 5 v)
      go_wp2
      generalize Lib.bytesWorld w1 5 v = wb at hsp hwbb ⊢
      generalize grownCap w1 v.size 0 5 = cb
      clear hcv
      go_loopg [13] v.size (fun k i wr => ∃ j : Nat, i = .int .i64 j ∧ j + k = v.size ∧ SpAt w1.heap.size v wb j wr)
      case atStart => exact ⟨0, rfl, by omega, hsp.out⟩
      case round =>
        obtain ⟨j, rfl, hk, ha⟩ := hrel
        by_cases hlt : j < v.size
        · have hc := ha.left j (Nat.le_refl _) hlt
          have hf := ha.free j hlt
          have HA := Aside0.mk ha
          have hsy := Aside0.mk (fun h => spB_yes (b := v[j]'hlt) h)
          have hsn := Aside0.mk (fun h => spB_no (b := v[j]'hlt) h)
          obtain ⟨x, hx⟩ : ∃ x : Nat, (v[j]'hlt).toNat = x := ⟨_, rfl⟩
          have hx256 : x < 256 := by rw [← hx]; exact UInt8.toNat_lt _
          rw [hx] at hc hsy hsn
          have HI := Aside0.mk (fun W => specIsBlank_calls (x : Nat) W)
          clear ha hx
          cases hq : isBlank (x : Nat) with
          | true =>
            have hnx := Aside0.mk (HA.out.put hlt (hsy.out hq))
            rw [hq] at HI
            clear hq hsy hsn
            go_wp2_with fail
            refine (HI.out _).mono ?_
            rintro e w2 ⟨rfl, rfl⟩
            go_wp2
            go_roundg (gk - 1)
            case measure => omega
            case rel => exact ⟨j + 1, by go_num, by omega, hnx.out⟩
          | false =>
            have hnx := Aside0.mk (HA.out.keep hlt (hsn.out hq))
            rw [hq] at HI
            clear hq hsy hsn
            go_wp2_with fail
            refine (HI.out _).mono ?_
            rintro e w2 ⟨rfl, rfl⟩
            go_wp2
            go_roundg (gk - 1)
            case measure => omega
            case rel => exact ⟨j + 1, by go_num, by omega, hnx.out⟩
        · obtain rfl : j = v.size := by omega
          have hcv := ha.text (c := cb)
          have hbr := below_then hbx (below_moved hwbb.out ha.moved (Nat.le_refl _))
          have HXv := Aside0.mk (HX.out (spacedB v) wr hbr (by rw [spaced_size]; omega))
          clear ha hsp hlt hk
          obtain ⟨ex, hex⟩ : ∃ ex, ex = expandV (spacedB v) l := ⟨_, rfl⟩
          rw [← hex] at HXv
          have hex := Aside0.mk hex
          obtain ⟨sv, hsv⟩ : ∃ sv, sv = spacedB v := ⟨_, rfl⟩
          rw [← hsv] at HXv hcv
          clear hsv
          go_wp2_with fail
          refine (HXv.out).mono ?_
          rintro e w3 ⟨rfl, hb3⟩
          have hb3 := below_then hbr hb3
          clear hcv
          have HV := Aside0.mk (show R = if hasB v [60] = true then none else ex.map fun x => (⟨n, x⟩, nx) by rw [HV.out, ← hex.out])
          clear hex
          cases hh : hasB v [60] with
          | true =>
            have hfin := Aside0.mk (show R = none by rw [HV.out, if_pos hh])
            rw [hh] at HH
            clear hh HV
            cases ex with
            | none =>
              simp only [optV]
              go_wp2_with fail
              refine (HH.out _).mono ?_
              rintro e w4 ⟨rfl, rfl⟩
              obtain ⟨r0, r1, f0, f1⟩ := cells2 (RG.out _ hb3)
              go_wp2
              obtain ⟨X, hX, hXg, hXm⟩ := out2 (RG.out _ hb3) (.string (⟨#[]⟩)) (.string (⟨#[]⟩))
              rw [← hX]
              clear hX r0 r1 f0 f1
              obtain ⟨p0, p1, _⟩ := cells2 hXg
              refine bodyPost_ret (v := .tuple #[.agg #[.string (⟨#[]⟩), .string (⟨#[]⟩)], .int .i64 (-1)]) ?hres rfl (RwOut.none hfin.out _ _ (below_moved (below_then HB.out hb3) hXm (Nat.le_refl _)))
              case hres => simp [results, Tryz.results124, go_sem, p0, p1]
            | some xv =>
              simp only [optV]
              go_wp2_with fail
              refine (HH.out _).mono ?_
              rintro e w4 ⟨rfl, rfl⟩
              obtain ⟨r0, r1, f0, f1⟩ := cells2 (RG.out _ hb3)
              go_wp2
              obtain ⟨X, hX, hXg, hXm⟩ := out2 (RG.out _ hb3) (.string (⟨#[]⟩)) (.string (⟨#[]⟩))
              rw [← hX]
              clear hX r0 r1 f0 f1
              obtain ⟨p0, p1, _⟩ := cells2 hXg
              refine bodyPost_ret (v := .tuple #[.agg #[.string (⟨#[]⟩), .string (⟨#[]⟩)], .int .i64 (-1)]) ?hres rfl (RwOut.none hfin.out _ _ (below_moved (below_then HB.out hb3) hXm (Nat.le_refl _)))
              case hres => simp [results, Tryz.results124, go_sem, p0, p1]
          | false =>
            have HV := Aside0.mk (HV.out.trans (if_neg (by rw [hh]; simp)))
            rw [hh] at HH
            clear hh
            cases ex with
            | none =>
              have hfin := Aside0.mk (show R = none from HV.out)
              clear HV
              simp only [optV]
              go_wp2_with fail
              refine (HH.out _).mono ?_
              rintro e w4 ⟨rfl, rfl⟩
              obtain ⟨r0, r1, f0, f1⟩ := cells2 (RG.out _ hb3)
              go_wp2
              obtain ⟨X, hX, hXg, hXm⟩ := out2 (RG.out _ hb3) (.string (⟨#[]⟩)) (.string (⟨#[]⟩))
              rw [← hX]
              clear hX r0 r1 f0 f1
              obtain ⟨p0, p1, _⟩ := cells2 hXg
              refine bodyPost_ret (v := .tuple #[.agg #[.string (⟨#[]⟩), .string (⟨#[]⟩)], .int .i64 (-1)]) ?hres rfl (RwOut.none hfin.out _ _ (below_moved (below_then HB.out hb3) hXm (Nat.le_refl _)))
              case hres => simp [results, Tryz.results124, go_sem, p0, p1]
            | some xv =>
              have hfin := Aside0.mk (show R = some (⟨n, xv⟩, nx) from HV.out)
              clear HV
              simp only [optV]
              go_wp2_with fail
              refine (HH.out _).mono ?_
              rintro e w4 ⟨rfl, rfl⟩
              obtain ⟨r0, r1, f0, f1⟩ := cells2 (RG.out _ hb3)
              go_wp2
              obtain ⟨X, hX, hXg, hXm⟩ := out2 (RG.out _ hb3) (.string (n)) (.string (xv))
              rw [← hX]
              clear hX r0 r1 f0 f1
              obtain ⟨p0, p1, _⟩ := cells2 hXg
              refine bodyPost_ret (v := .tuple #[.agg #[.string (n), .string (xv)], .int .i64 (nx)]) ?hres rfl (RwOut.at hfin.out (by omega) (below_moved (below_then HB.out hb3) hXm (Nat.le_refl _)))
              case hres => simp [results, Tryz.results124, go_sem, p0, p1]
  | false =>
  cases hi2 : isAtB s ⟨#[39]⟩ (b2 : Nat) with
  | true =>
    have hii : isAtB s ⟨#[34]⟩ (b2 : Nat) = true ∨ isAtB s ⟨#[39]⟩ (b2 : Nat) = true := .inr hi2
    have hroom2 : b2 + 1 ≤ s.size := isAt_room hi2
    rw [hi1] at HI1
    rw [hi2] at HI2
    clear hi1 hi2
    obtain ⟨qt, hqt⟩ : ∃ qt, qt = s.extract b2 (b2 + 1) := ⟨_, rfl⟩
    have hqz : qt.size = 1 := by rw [hqt, ByteArray.size_extract]; omega
    have HTo := Aside0.mk (fun W => l6To_calls s qt (b2 + 1) W hs (by omega) (by omega) (by omega))
    rw [toV_is, show ((b2 + 1 : Nat) : Int) = (b2 : Int) + 1 from rfl, hqt] at HTo
    cases ho : toO s (s.extract b2 (b2 + 1)) (b2 + 1) with
    | none =>
      have hfin := Aside0.mk (show R = none by rw [HT.out, hqu.out, if_pos hii, ho]; rfl)
      rw [ho] at HTo
      clear ho HT hqu hii hqt hqz
      go_enter Tryz.func124, Tryz.ntmps124
      go_upto_region 1 with fail
      rw [← HW.out]
      go_wp2_with fail
      refine (HN.out _).mono ?_
      rintro e w1 ⟨rfl, hb1⟩
      simp only [tnV]
      go_wp2_with fail
      refine (HBl.out _).mono ?_
      rintro e w2 ⟨rfl, rfl⟩
      go_wp2_with fail
      refine (HI.out _).mono ?_
      rintro e w2 ⟨rfl, rfl⟩
      go_wp2_with fail
      refine (HBk.out _).mono ?_
      rintro e w2 ⟨rfl, rfl⟩
      go_wp2_with fail
      refine (HI1.out _).mono ?_
      rintro e w2 ⟨rfl, rfl⟩
      try (go_wp2_with fail; refine (HI2.out _).mono ?_; rintro e w2 ⟨rfl, rfl⟩)
      go_wp2_with fail
      refine (HTo.out _).mono ?_
      rintro e w2 ⟨rfl, rfl⟩
      simp only [tnV]
      obtain ⟨v, hv⟩ : ∃ v : ByteArray, v = ⟨#[]⟩ := ⟨_, rfl⟩
      have hvz : v.size ≤ 1000000000 := by rw [hv]; decide
      rw [← hv]
      clear hv
      have hbx : Below W.heap.size W w1 := hb1
      have hcv := @Lib.run_convert_string_bytes Tryz.prog w1 9 22 5 v _ Tryz.underlying9 Tryz.underlying22 Tryz.underlying5
      have hsp := Aside0.mk (sp_start w1 5 v)
      have hwbb := Aside0.mk (below_bytes2 w1 5 v)
      go_wp2
      generalize Lib.bytesWorld w1 5 v = wb at hsp hwbb ⊢
      generalize grownCap w1 v.size 0 5 = cb
      clear hcv
      go_loopg [13] v.size (fun k i wr => ∃ j : Nat, i = .int .i64 j ∧ j + k = v.size ∧ SpAt w1.heap.size v wb j wr)
      case atStart => exact ⟨0, rfl, by omega, hsp.out⟩
      case round =>
        obtain ⟨j, rfl, hk, ha⟩ := hrel
        by_cases hlt : j < v.size
        · have hc := ha.left j (Nat.le_refl _) hlt
          have hf := ha.free j hlt
          have HA := Aside0.mk ha
          have hsy := Aside0.mk (fun h => spB_yes (b := v[j]'hlt) h)
          have hsn := Aside0.mk (fun h => spB_no (b := v[j]'hlt) h)
          obtain ⟨x, hx⟩ : ∃ x : Nat, (v[j]'hlt).toNat = x := ⟨_, rfl⟩
          have hx256 : x < 256 := by rw [← hx]; exact UInt8.toNat_lt _
          rw [hx] at hc hsy hsn
          have HI := Aside0.mk (fun W => specIsBlank_calls (x : Nat) W)
          clear ha hx
          cases hq : isBlank (x : Nat) with
          | true =>
            have hnx := Aside0.mk (HA.out.put hlt (hsy.out hq))
            rw [hq] at HI
            clear hq hsy hsn
            go_wp2_with fail
            refine (HI.out _).mono ?_
            rintro e w2 ⟨rfl, rfl⟩
            go_wp2
            go_roundg (gk - 1)
            case measure => omega
            case rel => exact ⟨j + 1, by go_num, by omega, hnx.out⟩
          | false =>
            have hnx := Aside0.mk (HA.out.keep hlt (hsn.out hq))
            rw [hq] at HI
            clear hq hsy hsn
            go_wp2_with fail
            refine (HI.out _).mono ?_
            rintro e w2 ⟨rfl, rfl⟩
            go_wp2
            go_roundg (gk - 1)
            case measure => omega
            case rel => exact ⟨j + 1, by go_num, by omega, hnx.out⟩
        · obtain rfl : j = v.size := by omega
          have hcv := ha.text (c := cb)
          have hbr := below_then hbx (below_moved hwbb.out ha.moved (Nat.le_refl _))
          have HXv := Aside0.mk (HX.out (spacedB v) wr hbr (by rw [spaced_size]; omega))
          clear ha hsp hlt hk
          obtain ⟨ex, hex⟩ : ∃ ex, ex = expandV (spacedB v) l := ⟨_, rfl⟩
          rw [← hex] at HXv
          have hex := Aside0.mk hex
          obtain ⟨sv, hsv⟩ : ∃ sv, sv = spacedB v := ⟨_, rfl⟩
          rw [← hsv] at HXv hcv
          clear hsv
          go_wp2_with fail
          refine (HXv.out).mono ?_
          rintro e w3 ⟨rfl, hb3⟩
          have hb3 := below_then hbr hb3
          clear hcv
          cases ex with
          | none =>
            simp only [optV]
            obtain ⟨r0, r1, f0, f1⟩ := cells2 (RG.out _ hb3)
            go_wp2
            obtain ⟨X, hX, hXg, hXm⟩ := out2 (RG.out _ hb3) (.string (⟨#[]⟩)) (.string (⟨#[]⟩))
            rw [← hX]
            clear hX r0 r1 f0 f1
            obtain ⟨p0, p1, _⟩ := cells2 hXg
            refine bodyPost_ret (v := .tuple #[.agg #[.string (⟨#[]⟩), .string (⟨#[]⟩)], .int .i64 (-1)]) ?hres rfl (RwOut.none hfin.out _ _ (below_moved (below_then HB.out hb3) hXm (Nat.le_refl _)))
            case hres => simp [results, Tryz.results124, go_sem, p0, p1]
          | some xv =>
            simp only [optV]
            obtain ⟨r0, r1, f0, f1⟩ := cells2 (RG.out _ hb3)
            go_wp2
            obtain ⟨X, hX, hXg, hXm⟩ := out2 (RG.out _ hb3) (.string (⟨#[]⟩)) (.string (⟨#[]⟩))
            rw [← hX]
            clear hX r0 r1 f0 f1
            obtain ⟨p0, p1, _⟩ := cells2 hXg
            refine bodyPost_ret (v := .tuple #[.agg #[.string (⟨#[]⟩), .string (⟨#[]⟩)], .int .i64 (-1)]) ?hres rfl (RwOut.none hfin.out _ _ (below_moved (below_then HB.out hb3) hXm (Nat.le_refl _)))
            case hres => simp [results, Tryz.results124, go_sem, p0, p1]
    | some q =>
      obtain ⟨v, nx⟩ := q
      have hnx := toO_next (by omega) ho
      have hvz : v.size ≤ 1000000000 := by omega
      have HV := Aside0.mk (show R = if hasB v [60] = true then none else (expandV (spacedB v) l).map fun x => (⟨n, x⟩, nx) by
        rw [HT.out, hqu.out, if_pos hii, ho]
        simp only [Option.bind_some]
        split <;> rfl)
      rw [ho] at HTo
      clear ho HT hqu hii hqt hqz
      have HH := Aside0.mk (fun W => l5Has_calls v ⟨#[60]⟩ W hvz (by decide) (by decide))
      rw [show hasB v (⟨#[60]⟩ : ByteArray).data.toList = hasB v [60] from rfl] at HH
      go_enter Tryz.func124, Tryz.ntmps124
      go_upto_region 1 with fail
      rw [← HW.out]
      go_wp2_with fail
      refine (HN.out _).mono ?_
      rintro e w1 ⟨rfl, hb1⟩
      simp only [tnV]
      go_wp2_with fail
      refine (HBl.out _).mono ?_
      rintro e w2 ⟨rfl, rfl⟩
      go_wp2_with fail
      refine (HI.out _).mono ?_
      rintro e w2 ⟨rfl, rfl⟩
      go_wp2_with fail
      refine (HBk.out _).mono ?_
      rintro e w2 ⟨rfl, rfl⟩
      go_wp2_with fail
      refine (HI1.out _).mono ?_
      rintro e w2 ⟨rfl, rfl⟩
      try (go_wp2_with fail; refine (HI2.out _).mono ?_; rintro e w2 ⟨rfl, rfl⟩)
      go_wp2_with fail
      refine (HTo.out _).mono ?_
      rintro e w2 ⟨rfl, rfl⟩
      simp only [tnV]
      have hbx : Below W.heap.size W w1 := hb1
      have hcv := @Lib.run_convert_string_bytes Tryz.prog w1 9 22 5 v _ Tryz.underlying9 Tryz.underlying22 Tryz.underlying5
      have hsp := Aside0.mk (sp_start w1 5 v)
      have hwbb := Aside0.mk (below_bytes2 w1 5 v)
      go_wp2
      generalize Lib.bytesWorld w1 5 v = wb at hsp hwbb ⊢
      generalize grownCap w1 v.size 0 5 = cb
      clear hcv
      go_loopg [13] v.size (fun k i wr => ∃ j : Nat, i = .int .i64 j ∧ j + k = v.size ∧ SpAt w1.heap.size v wb j wr)
      case atStart => exact ⟨0, rfl, by omega, hsp.out⟩
      case round =>
        obtain ⟨j, rfl, hk, ha⟩ := hrel
        by_cases hlt : j < v.size
        · have hc := ha.left j (Nat.le_refl _) hlt
          have hf := ha.free j hlt
          have HA := Aside0.mk ha
          have hsy := Aside0.mk (fun h => spB_yes (b := v[j]'hlt) h)
          have hsn := Aside0.mk (fun h => spB_no (b := v[j]'hlt) h)
          obtain ⟨x, hx⟩ : ∃ x : Nat, (v[j]'hlt).toNat = x := ⟨_, rfl⟩
          have hx256 : x < 256 := by rw [← hx]; exact UInt8.toNat_lt _
          rw [hx] at hc hsy hsn
          have HI := Aside0.mk (fun W => specIsBlank_calls (x : Nat) W)
          clear ha hx
          cases hq : isBlank (x : Nat) with
          | true =>
            have hnx := Aside0.mk (HA.out.put hlt (hsy.out hq))
            rw [hq] at HI
            clear hq hsy hsn
            go_wp2_with fail
            refine (HI.out _).mono ?_
            rintro e w2 ⟨rfl, rfl⟩
            go_wp2
            go_roundg (gk - 1)
            case measure => omega
            case rel => exact ⟨j + 1, by go_num, by omega, hnx.out⟩
          | false =>
            have hnx := Aside0.mk (HA.out.keep hlt (hsn.out hq))
            rw [hq] at HI
            clear hq hsy hsn
            go_wp2_with fail
            refine (HI.out _).mono ?_
            rintro e w2 ⟨rfl, rfl⟩
            go_wp2
            go_roundg (gk - 1)
            case measure => omega
            case rel => exact ⟨j + 1, by go_num, by omega, hnx.out⟩
        · obtain rfl : j = v.size := by omega
          have hcv := ha.text (c := cb)
          have hbr := below_then hbx (below_moved hwbb.out ha.moved (Nat.le_refl _))
          have HXv := Aside0.mk (HX.out (spacedB v) wr hbr (by rw [spaced_size]; omega))
          clear ha hsp hlt hk
          obtain ⟨ex, hex⟩ : ∃ ex, ex = expandV (spacedB v) l := ⟨_, rfl⟩
          rw [← hex] at HXv
          have hex := Aside0.mk hex
          obtain ⟨sv, hsv⟩ : ∃ sv, sv = spacedB v := ⟨_, rfl⟩
          rw [← hsv] at HXv hcv
          clear hsv
          go_wp2_with fail
          refine (HXv.out).mono ?_
          rintro e w3 ⟨rfl, hb3⟩
          have hb3 := below_then hbr hb3
          clear hcv
          have HV := Aside0.mk (show R = if hasB v [60] = true then none else ex.map fun x => (⟨n, x⟩, nx) by rw [HV.out, ← hex.out])
          clear hex
          cases hh : hasB v [60] with
          | true =>
            have hfin := Aside0.mk (show R = none by rw [HV.out, if_pos hh])
            rw [hh] at HH
            clear hh HV
            cases ex with
            | none =>
              simp only [optV]
              go_wp2_with fail
              refine (HH.out _).mono ?_
              rintro e w4 ⟨rfl, rfl⟩
              obtain ⟨r0, r1, f0, f1⟩ := cells2 (RG.out _ hb3)
              go_wp2
              obtain ⟨X, hX, hXg, hXm⟩ := out2 (RG.out _ hb3) (.string (⟨#[]⟩)) (.string (⟨#[]⟩))
              rw [← hX]
              clear hX r0 r1 f0 f1
              obtain ⟨p0, p1, _⟩ := cells2 hXg
              refine bodyPost_ret (v := .tuple #[.agg #[.string (⟨#[]⟩), .string (⟨#[]⟩)], .int .i64 (-1)]) ?hres rfl (RwOut.none hfin.out _ _ (below_moved (below_then HB.out hb3) hXm (Nat.le_refl _)))
              case hres => simp [results, Tryz.results124, go_sem, p0, p1]
            | some xv =>
              simp only [optV]
              go_wp2_with fail
              refine (HH.out _).mono ?_
              rintro e w4 ⟨rfl, rfl⟩
              obtain ⟨r0, r1, f0, f1⟩ := cells2 (RG.out _ hb3)
              go_wp2
              obtain ⟨X, hX, hXg, hXm⟩ := out2 (RG.out _ hb3) (.string (⟨#[]⟩)) (.string (⟨#[]⟩))
              rw [← hX]
              clear hX r0 r1 f0 f1
              obtain ⟨p0, p1, _⟩ := cells2 hXg
              refine bodyPost_ret (v := .tuple #[.agg #[.string (⟨#[]⟩), .string (⟨#[]⟩)], .int .i64 (-1)]) ?hres rfl (RwOut.none hfin.out _ _ (below_moved (below_then HB.out hb3) hXm (Nat.le_refl _)))
              case hres => simp [results, Tryz.results124, go_sem, p0, p1]
          | false =>
            have HV := Aside0.mk (HV.out.trans (if_neg (by rw [hh]; simp)))
            rw [hh] at HH
            clear hh
            cases ex with
            | none =>
              have hfin := Aside0.mk (show R = none from HV.out)
              clear HV
              simp only [optV]
              go_wp2_with fail
              refine (HH.out _).mono ?_
              rintro e w4 ⟨rfl, rfl⟩
              obtain ⟨r0, r1, f0, f1⟩ := cells2 (RG.out _ hb3)
              go_wp2
              obtain ⟨X, hX, hXg, hXm⟩ := out2 (RG.out _ hb3) (.string (⟨#[]⟩)) (.string (⟨#[]⟩))
              rw [← hX]
              clear hX r0 r1 f0 f1
              obtain ⟨p0, p1, _⟩ := cells2 hXg
              refine bodyPost_ret (v := .tuple #[.agg #[.string (⟨#[]⟩), .string (⟨#[]⟩)], .int .i64 (-1)]) ?hres rfl (RwOut.none hfin.out _ _ (below_moved (below_then HB.out hb3) hXm (Nat.le_refl _)))
              case hres => simp [results, Tryz.results124, go_sem, p0, p1]
            | some xv =>
              have hfin := Aside0.mk (show R = some (⟨n, xv⟩, nx) from HV.out)
              clear HV
              simp only [optV]
              go_wp2_with fail
              refine (HH.out _).mono ?_
              rintro e w4 ⟨rfl, rfl⟩
              obtain ⟨r0, r1, f0, f1⟩ := cells2 (RG.out _ hb3)
              go_wp2
              obtain ⟨X, hX, hXg, hXm⟩ := out2 (RG.out _ hb3) (.string (n)) (.string (xv))
              rw [← hX]
              clear hX r0 r1 f0 f1
              obtain ⟨p0, p1, _⟩ := cells2 hXg
              refine bodyPost_ret (v := .tuple #[.agg #[.string (n), .string (xv)], .int .i64 (nx)]) ?hres rfl (RwOut.at hfin.out (by omega) (below_moved (below_then HB.out hb3) hXm (Nat.le_refl _)))
              case hres => simp [results, Tryz.results124, go_sem, p0, p1]
  | false =>
    have hfin := Aside0.mk (show R = none by rw [HT.out, hqu.out, if_neg (by rw [hi1, hi2]; simp)]; rfl)
    rw [hi1] at HI1
    rw [hi2] at HI2
    clear hi1 hi2 HT hqu
    go_enter Tryz.func124, Tryz.ntmps124
    go_upto_region 1 with fail
    rw [← HW.out]
    go_wp2_with fail
    refine (HN.out _).mono ?_
    rintro e w1 ⟨rfl, hb1⟩
    simp only [tnV]
    go_wp2_with fail
    refine (HBl.out _).mono ?_
    rintro e w2 ⟨rfl, rfl⟩
    go_wp2_with fail
    refine (HI.out _).mono ?_
    rintro e w2 ⟨rfl, rfl⟩
    go_wp2_with fail
    refine (HBk.out _).mono ?_
    rintro e w2 ⟨rfl, rfl⟩
    go_wp2_with fail
    refine (HI1.out _).mono ?_
    rintro e w2 ⟨rfl, rfl⟩
    try (go_wp2_with fail; refine (HI2.out _).mono ?_; rintro e w2 ⟨rfl, rfl⟩)
    obtain ⟨r0, r1, f0, f1⟩ := cells2 (RG.out _ hb1)
    go_wp2
    obtain ⟨X, hX, hXg, hXm⟩ := out2 (RG.out _ hb1) (.string (⟨#[]⟩)) (.string (⟨#[]⟩))
    rw [← hX]
    clear hX r0 r1 f0 f1
    obtain ⟨p0, p1, _⟩ := cells2 hXg
    refine bodyPost_ret (v := .tuple #[.agg #[.string (⟨#[]⟩), .string (⟨#[]⟩)], .int .i64 (-1)]) ?hres rfl (RwOut.none hfin.out _ _ (below_moved (below_then HB.out hb1) hXm (Nat.le_refl _)))
    case hres => simp [results, Tryz.results124, go_sem, p0, p1]
end Go.Proofs.YtmfkdgdamepbcaaGreatDoor
end
section
/- The reference's l6Open. -/
namespace Go.Proofs.YtmfkdgdamepbcaaGreatDoor
open Go.RowKit Go.Lib
set_option linter.unusedVariables false
set_option linter.unusedSimpArgs false
set_option maxHeartbeats 0
set_option maxRecDepth 100000
theorem l6Open_calls {ok : Nat → Prop} (s : ByteArray) (a : Nat) (A : Option Addr) (c : Nat) (l : List Dcl) (w : World) (hr : Row Kd.dcl w ok A l) (hs : s.size ≤ 1000000000) (ha : a + 1 ≤ s.size) (hz : ∀ d ∈ l, d.pre.size ≤ 1048576 ∧ d.uri.size ≤ 1048576) :
    Calls Tryz.prog 90 #[.string s, .int .i64 (a : Int), .slice A l.length c] w (MkOut w (openO s (a + 1) l)) := by
  obtain ⟨R, hR⟩ : ∃ R, R = openO s (a + 1) l := ⟨_, rfl⟩
  rw [← hR]
  obtain ⟨i, hi, hz0, hz1, hz2⟩ := info_parts Tryz.info_Raw
  have hnz : (.agg #[.string ⟨#[]⟩, .string ⟨#[]⟩] : Value).cells.size = 2 := rfl
  obtain ⟨W, hW, HB0, hsz, HG⟩ := boxed w #[.int .i64 0, .string ⟨#[]⟩, .slice none 0 0, .bool false, .string ⟨#[]⟩] 29
  have HW := Aside0.mk hW
  have RG := Aside0.mk (fun W1 (hb : Below W.heap.size W W1) => (hb.block _ hsz).trans HG)
  have HB := Aside0.mk HB0
  have HN := Aside0.mk (fun W => l6Name_calls s (a + 1) W hs ha)
  rw [show ((a + 1 : Nat) : Int) = (a : Int) + 1 from rfl] at HN
  have HRw := Aside0.mk (fun b W1 (hb : Below W.heap.size W W1) (h : b ≤ s.size) => l6Raw_calls s b A c l W1 (hr.below (below_then HB0 hb)) hs h hz)
  have HSZ := Aside0.mk (show w.heap.size < W.heap.size from hsz)
  clear hW HG HB0 hsz hr hz
  have Hz2 := Aside0.mk hz2
  clear hz2
  cases hq : nameO s (a + 1) with
  | none =>
    have hfin := Aside0.mk (show R = none by rw [hR, openO, hq]; rfl)
    rw [hq] at HN
    clear hq hR
    go_enter Tryz.func90, Tryz.ntmps90
    go_upto_region 1 with fail
    rw [← HW.out]
    go_wp2_with fail
    refine (HN.out _).mono ?_
    rintro e w1 ⟨rfl, hb1⟩
    simp only [tnV]
    obtain ⟨r0, r1, r2, r3, r4, f0, f1, f2, f3, f4⟩ := cells5 (RG.out _ hb1)
    go_wp2
    obtain ⟨X, hX, hXg, hXm⟩ := out5 (RG.out _ hb1) (.int .i64 0) (.string ⟨#[]⟩) ((.slice none 0 0)) (.bool false) (.string ⟨#[]⟩)
    rw [← hX]
    clear hX r0 r1 r2 r3 r4 f0 f1 f2 f3 f4
    obtain ⟨p0, p1, p2, p3, p4, _⟩ := cells5 hXg
    refine bodyPost_ret (v := .tuple #[.agg #[.int .i64 0, .string ⟨#[]⟩, (.slice none 0 0), .bool false, .string ⟨#[]⟩], .int .i64 (-1)]) ?hres rfl (MkOut.none hfin.out _ _ _ _ (below_moved (below_then HB.out hb1) hXm (Nat.le_refl _)))
    case hres => simp [results, Tryz.results90, go_sem, p0, p1, p2, p3, p4]
  | some q =>
  obtain ⟨n, k0⟩ := q
  have hn := nameO_next ha hq
  rw [hq] at HN
  have HR := Aside0.mk (show R = opN s l n k0 [] by rw [hR, openO, hq]; rfl)
  clear hq hR
  go_enter Tryz.func90, Tryz.ntmps90
  go_upto_region 1 with fail
  rw [← HW.out]
  go_wp2_with fail
  refine (HN.out _).mono ?_
  rintro e w1 ⟨rfl, hb1⟩
  simp only [tnV]
  obtain ⟨W2, hW2, HB2, hsz2, HG2⟩ := boxed w1 #[.int .i64 1, .string n, .slice none 0 0, .bool false, .string ⟨#[]⟩] 29
  have hb2 := below_then hb1 HB2
  have hgm : W.heap.size ≤ w1.heap.size := hb1.size
  have hwW : w.heap.size ≤ W2.heap.size := Nat.le_trans HB.out.size hb2.size
  have HW2 := Aside0.mk hW2
  have HG2 := Aside0.mk HG2
  have HL := Aside0.mk hsz2
  have HWW := Aside0.mk hwW
  have HL2 := Aside0.mk (show w.heap.size < W2.heap.size by have := HSZ.out; have := hb2.size; omega)
  have HWL := Aside0.mk (show W.heap.size ≤ W2.heap.size from hb2.size)
  have HGM := Aside0.mk hgm
  clear hW2 HB2 hsz2 hwW
  go_upto_region 5 with fail
  rw [← HW2.out]
  obtain ⟨gm, hgme⟩ : ∃ gm, gm = w1.heap.size := ⟨_, rfl⟩
  rw [← hgme] at HG2 HL HGM ⊢
  clear hgme hgm
  go_loopg [9] (s.size - k0) (fun g i wr => ∃ (k : Nat) (rs : List Dcl) (rv : Value), i = .int .i64 k ∧ k + g = s.size ∧ rs.length ≤ k ∧ Aside (R = opN s l n k rs) ∧ Aside (wr.heap[gm]? = some (.cells #[.int .i64 1, .string n, rv, .bool false, .string ⟨#[]⟩] 29 (0, 0))) ∧ Aside (OwnG Kd.dcl 33 wr W2.heap.size rv rs) ∧ Aside (W2.heap.size ≤ wr.heap.size) ∧ Below W.heap.size W wr)
  case atStart => exact ⟨k0, [], _, rfl, by omega, by simp, HR.out, HG2.out, OwnG.nil _ _ _ _, Nat.le_refl _, hb2⟩
  case round =>
    clear hb1 hb2
    obtain ⟨k, rs, rv, rfl, hk, hrl, ha, hG, hO, HBase, hb⟩ := hrel
    have hks : k ≤ s.size := by omega
    obtain ⟨Ar, cr, rfl, _⟩ := Own.slice hO.out
    have hbl := blanksN_le s k
    obtain ⟨b, hbe⟩ : ∃ b, b = blanksN s k := ⟨_, rfl⟩
    have HBl := Aside0.mk (fun W => specBlanks_calls s k W hs (by omega))
    rw [show blanksI s k = ((blanksN s k : Nat) : Int) by rw [blanksI, if_neg (by omega), Int.toNat_natCast], ← hbe] at HBl
    have hat := Aside0.mk (ha.out.trans (opN_at hks))
    rw [← hbe] at hat hbl
    have HI1 := Aside0.mk (fun W => l6Is_calls s ⟨#[47, 62]⟩ b W hs (by decide) (by omega) (by omega))
    have HI2 := Aside0.mk (fun W => l6Is_calls s ⟨#[62]⟩ b W hs (by decide) (by omega) (by omega))
    clear ha hbe
    obtain ⟨m0, m1, m2, m3, m4, n0, n1, n2, n3, n4⟩ := cells5 hG.out
    go_wp2_with fail
    refine (HBl.out _).mono ?_
    rintro e w3 ⟨rfl, rfl⟩
    cases h1 : isAtB s ⟨#[47, 62]⟩ (b : Nat) with
    | true =>
      have hfin := Aside0.mk (hat.out.trans (if_pos h1))
      rw [h1] at HI1
      clear h1 hat
      go_wp2_with fail
      refine (HI1.out _).mono ?_
      rintro e w3 ⟨rfl, rfl⟩
      go_upto_region 8 with fail
      obtain ⟨X2, hX2, HGX, hXm2⟩ := put5_3 hG.out (.bool true)
      rw [← hX2]
      have hb3 := below_moved hb hXm2 HGM.out
      have hO2 := Aside0.mk (hO.out.moved hXm2 HL.out)
      clear m0 m1 m2 m3 m4 n0 n1 n2 n3 n4 hX2
      obtain ⟨m0, m1, m2, m3, m4, n0, n1, n2, n3, n4⟩ := cells5 HGX
      have hout := Aside0.mk (fun (w' : World) (hO : OwnG Kd.dcl 33 w' W2.heap.size (.slice Ar rs.length cr) rs) (hb : Below w.heap.size w w') =>
        show MkOut w R (.returned (.tuple #[.agg #[.int .i64 1, .string n, .slice Ar rs.length cr, .bool true, .string ⟨#[]⟩], .int .i64 ((b : Nat) + 2)])) w' from ⟨⟨1, n, rs, true, ⟨#[]⟩⟩, _, _, rfl, ⟨_, HWW.out, hO⟩, (by rw [hfin.out]; exact ⟨rfl, rfl⟩), hb⟩)
      obtain ⟨r0, r1, r2, r3, r4, f0, f1, f2, f3, f4⟩ := cells5 (RG.out _ hb3)
      go_wp2
      obtain ⟨X, hX, hXg, hXm⟩ := out5 (RG.out _ hb3) (.int .i64 1) (.string n) ((.slice Ar rs.length cr)) (.bool true) (.string ⟨#[]⟩)
      rw [← hX]
      clear hX r0 r1 r2 r3 r4 f0 f1 f2 f3 f4
      obtain ⟨p0, p1, p2, p3, p4, _⟩ := cells5 hXg
      refine bodyPost_ret (v := .tuple #[.agg #[.int .i64 1, .string n, (.slice Ar rs.length cr), .bool true, .string ⟨#[]⟩], .int .i64 ((b : Nat) + 2)]) ?hres rfl (hout.out _ (hO2.out.moved hXm HL2.out) (below_moved (below_then HB.out hb3) hXm (Nat.le_refl _)))
      case hres => simp [results, Tryz.results90, go_sem, p0, p1, p2, p3, p4]
    | false =>
    have hat := Aside0.mk (hat.out.trans (if_neg (by rw [h1]; simp)))
    rw [h1] at HI1
    clear h1
    go_wp2_with fail
    refine (HI1.out _).mono ?_
    rintro e w3 ⟨rfl, rfl⟩
    cases h2 : isAtB s ⟨#[62]⟩ (b : Nat) with
    | true =>
      have hfin := Aside0.mk (hat.out.trans (if_pos h2))
      rw [h2] at HI2
      clear h2 hat
      go_wp2_with fail
      refine (HI2.out _).mono ?_
      rintro e w3 ⟨rfl, rfl⟩
      have hout := Aside0.mk (fun (w' : World) (hO : OwnG Kd.dcl 33 w' W2.heap.size (.slice Ar rs.length cr) rs) (hb : Below w.heap.size w w') =>
        show MkOut w R (.returned (.tuple #[.agg #[.int .i64 1, .string n, .slice Ar rs.length cr, .bool false, .string ⟨#[]⟩], .int .i64 ((b : Nat) + 1)])) w' from ⟨⟨1, n, rs, false, ⟨#[]⟩⟩, _, _, rfl, ⟨_, HWW.out, hO⟩, (by rw [hfin.out]; exact ⟨rfl, rfl⟩), hb⟩)
      obtain ⟨r0, r1, r2, r3, r4, f0, f1, f2, f3, f4⟩ := cells5 (RG.out _ hb)
      go_wp2
      obtain ⟨X, hX, hXg, hXm⟩ := out5 (RG.out _ hb) (.int .i64 1) (.string n) ((.slice Ar rs.length cr)) (.bool false) (.string ⟨#[]⟩)
      rw [← hX]
      clear hX r0 r1 r2 r3 r4 f0 f1 f2 f3 f4
      obtain ⟨p0, p1, p2, p3, p4, _⟩ := cells5 hXg
      refine bodyPost_ret (v := .tuple #[.agg #[.int .i64 1, .string n, (.slice Ar rs.length cr), .bool false, .string ⟨#[]⟩], .int .i64 ((b : Nat) + 1)]) ?hres rfl (hout.out _ (hO.out.moved hXm HL2.out) (below_moved (below_then HB.out hb) hXm (Nat.le_refl _)))
      case hres => simp [results, Tryz.results90, go_sem, p0, p1, p2, p3, p4]
    | false =>
    have hat := Aside0.mk (hat.out.trans (if_neg (by rw [h2]; simp)))
    rw [h2] at HI2
    clear h2
    go_wp2_with fail
    refine (HI2.out _).mono ?_
    rintro e w3 ⟨rfl, rfl⟩
    by_cases hbk : b = k
    · have hfin := Aside0.mk (show R = none from hat.out.trans (if_pos hbk))
      have hne : ((b : Int) == (k : Int)) = true := by simp [hbk]
      clear hbk hat
      obtain ⟨r0, r1, r2, r3, r4, f0, f1, f2, f3, f4⟩ := cells5 (RG.out _ hb)
      go_wp2
      obtain ⟨X, hX, hXg, hXm⟩ := out5 (RG.out _ hb) (.int .i64 0) (.string ⟨#[]⟩) ((.slice none 0 0)) (.bool false) (.string ⟨#[]⟩)
      rw [← hX]
      clear hX r0 r1 r2 r3 r4 f0 f1 f2 f3 f4
      obtain ⟨p0, p1, p2, p3, p4, _⟩ := cells5 hXg
      refine bodyPost_ret (v := .tuple #[.agg #[.int .i64 0, .string ⟨#[]⟩, (.slice none 0 0), .bool false, .string ⟨#[]⟩], .int .i64 (-1)]) ?hres rfl (MkOut.none hfin.out _ _ _ _ (below_moved (below_then HB.out hb) hXm (Nat.le_refl _)))
      case hres => simp [results, Tryz.results90, go_sem, p0, p1, p2, p3, p4]
    have hat := Aside0.mk (hat.out.trans (if_neg hbk))
    have hne : ((b : Int) == (k : Int)) = false := by simp; omega
    clear hbk
    go_wp2_with fail
    refine (HRw.out b _ hb (by omega)).mono ?_
    rintro e w4 ⟨x, k4, rfl, hk4, hb4⟩
    have hb4b := hb4
    have hb4 := below_then hb hb4
    cases hraw : rawO s b l with
    | none =>
      have hfin := Aside0.mk (show R = none by rw [hat.out, hraw]; rfl)
      rw [hraw] at hk4
      obtain rfl : k4 = -1 := hk4
      clear hat hraw hb4b
      obtain ⟨W5, hW5, HB5, hsz5, HG5⟩ := boxed w4 #[.string x.pre, .string x.uri] 33
      have hb5 := below_then hb4 HB5
      have HW5 := Aside0.mk hW5
      clear hW5
      go_upto_region 14 with fail
      rw [← HW5.out]
      obtain ⟨r0, r1, r2, r3, r4, f0, f1, f2, f3, f4⟩ := cells5 (RG.out _ hb5)
      go_wp2
      obtain ⟨X, hX, hXg, hXm⟩ := out5 (RG.out _ hb5) (.int .i64 0) (.string ⟨#[]⟩) ((.slice none 0 0)) (.bool false) (.string ⟨#[]⟩)
      rw [← hX]
      clear hX r0 r1 r2 r3 r4 f0 f1 f2 f3 f4
      obtain ⟨p0, p1, p2, p3, p4, _⟩ := cells5 hXg
      refine bodyPost_ret (v := .tuple #[.agg #[.int .i64 0, .string ⟨#[]⟩, (.slice none 0 0), .bool false, .string ⟨#[]⟩], .int .i64 (-1)]) ?hres rfl (MkOut.none hfin.out _ _ _ _ (below_moved (below_then HB.out hb5) hXm (Nat.le_refl _)))
      case hres => simp [results, Tryz.results90, go_sem, p0, p1, p2, p3, p4]
    | some q =>
      obtain ⟨x', tn⟩ := q
      have hto := rawO_next (by omega) hraw
      rw [hraw] at hk4
      obtain ⟨rfl, rfl⟩ : x = x' ∧ k4 = (tn : Nat) := hk4
      have hnx := Aside0.mk (show R = opN s l n tn (rs ++ [x]) by rw [hat.out, hraw]; rfl)
      clear hat hraw
      obtain ⟨W5, hW5, HB5, hsz5, HG5⟩ := boxed w4 #[.string x.pre, .string x.uri] 33
      have HB5b := below_then hb4b HB5
      have hb5 := below_then hb4 HB5
      have HW5 := Aside0.mk hW5
      obtain ⟨d0, d1, _, _⟩ := cells2 HG5
      clear hW5 m0 m1 m2 m3 m4 n0 n1 n2 n3 n4
      have hgs : gm < wr.heap.size := (Array.getElem?_eq_some_iff.1 hG.out).1
      have hG5 := Aside0.mk ((HB5b.block gm hgs).trans hG.out)
      obtain ⟨m0, m1, m2, m3, m4, n0, n1, n2, n3, n4⟩ := cells5 hG5.out
      obtain ⟨cells, hown, hsays⟩ := hO.out
      have hown' := Aside0.mk hown
      have hsays := Aside0.mk hsays
      have hlt3 := Aside0.mk hown.lt
      have ho2 := Aside0.mk (own_below hown HB5b)
      have hbase : W2.heap.size ≤ wr.heap.size := HBase.out
      have hbase5 : W2.heap.size ≤ W5.heap.size := Nat.le_trans hbase HB5b.size
      have hnews := Aside0.mk (pair_news W5 (.string x.pre) (.string x.uri) 33)
      clear hown
      go_upto_region 14 with fail
      rw [← HW5.out]
      go_wp2_with (at_builtin; refine wpList_append_own_at _ rfl _ _ 27 rfl W2.heap.size 33 i _ 2 _ Tryz.underlying27 hi hz0 hz1 rfl hnz (by decide) _ _ _ rfl (ho2.out.alloc _) ⟨W5.heap.size, 0, none⟩ 1 1 [.string x.pre, .string x.uri] rfl ?qc1 ?qc2 ?qc3 ?qc4 ?qc5 ?qc6 ?_)
      case qc1 => rfl
      case qc2 => exact hnews.out
      case qc3 => exact pair_one _ _
      case qc4 => unfold maxLen; omega
      case qc5 => rw [Hz2.out]; omega
      case qc6 => simp; omega
      intro v' w6 hown3 hgrow3 _ hat3
      have HN2 := Aside0.mk (OwnG.snoc (d := Kd.dcl) (x := x) hown'.out hsays.out hbase HB5b rfl hown3 hgrow3 hat3)
      have HB6 := below_grown (below_alloc hb5 _) hgrow3 (fun k hk => Nat.le_trans HWL.out (hlt3.out k hk).1)
      have hG6 := Aside0.mk (show w6.heap[gm]? = some (.cells #[.int .i64 1, .string n, .slice Ar rs.length cr, .bool false, .string ⟨#[]⟩] 29 (0, 0)) from
        (hgrow3.block gm (by rw [World.alloc, Array.size_push]; have := HB5b.size; omega) (fun e => by have := (hlt3.out gm e.symm).1; have := HL.out; omega)).trans (((below_alloc (Below.refl W5.heap.size W5) _).block gm (by have := HB5b.size; omega)).trans hG5.out))
      have hbs6 := Aside0.mk (show W2.heap.size ≤ w6.heap.size from Nat.le_trans (Nat.le_trans hbase5 (below_alloc (Below.refl W5.heap.size W5) _).size) hgrow3.size)
      obtain ⟨Av, cv, hv', _⟩ := Own.slice HN2.out
      rw [List.length_append, List.length_singleton] at hv'
      subst hv'
      clear hown3 hgrow3 hat3 m0 m1 m2 m3 m4 n0 n1 n2 n3 n4 d0 d1
      obtain ⟨m0, m1, m2, m3, m4, n0, n1, n2, n3, n4⟩ := cells5 hG6.out
      go_upto_region 17 with fail
      obtain ⟨X2, hX2, HGX, hXm2⟩ := put5_2 hG6.out (.slice Av (rs.length + 1) cv)
      rw [← hX2]
      have hb7 := below_moved HB6 hXm2 HGM.out
      have hO7 := Aside0.mk (HN2.out.moved hXm2 HL.out)
      have HGX := Aside0.mk HGX
      have hbs7 := Aside0.mk (Nat.le_trans hbs6.out hXm2.size)
      clear m0 m1 m2 m3 m4 n0 n1 n2 n3 n4 hX2 hXm2
      go_wp2
      go_roundg (s.size - tn)
      case measure => omega
      case rel => exact ⟨tn, rs ++ [x], _, rfl, by omega, by simp; omega, hnx.out, HGX.out, hO7.out, hbs7.out, hb7⟩
end Go.Proofs.YtmfkdgdamepbcaaGreatDoor
end
