/- Joined: MkS4, MkS5. -/
import Derived.Test.YtmfkdgdamepbcaaGreatDoorRefA
import Derived.Test.YtmfkdgdamepbcaaGreatDoorScnP
section
/- The reference's l6Mark, MarkAt. -/
namespace Go.Proofs.YtmfkdgdamepbcaaGreatDoor
open Go.RowKit Go.Lib
set_option linter.unusedVariables false
set_option linter.unusedSimpArgs false
set_option maxHeartbeats 0
set_option maxRecDepth 100000
theorem l6Mark_calls {ok : Nat → Prop} (s : ByteArray) (a : Nat) (A : Option Addr) (c : Nat) (l : List Dcl) (w : World) (hr : Row Kd.dcl w ok A l) (hs : s.size ≤ 1000000000) (ha : a < s.size) (hz : ∀ d ∈ l, d.pre.size ≤ 1048576 ∧ d.uri.size ≤ 1048576) :
    Calls Tryz.prog 42 #[.string s, .int .i64 (a : Int), .slice A l.length c] w (MkOut w (mkO s a l)) := by
  obtain ⟨R, hR⟩ : ∃ R, R = mkO s a l := ⟨_, rfl⟩
  rw [← hR]
  obtain ⟨W, hW, HB0, hsz, HG⟩ := boxed w #[.int .i64 0, .string ⟨#[]⟩, .slice none 0 0, .bool false, .string ⟨#[]⟩] 29
  have HW := Aside0.mk hW
  have RG := Aside0.mk (fun W1 (hb : Below W.heap.size W W1) => (hb.block _ hsz).trans HG)
  have HB := Aside0.mk HB0
  have HSZ := Aside0.mk (show w.heap.size < W.heap.size from hsz)
  have HX := Aside0.mk (fun v W1 (hb : Below W.heap.size W W1) (hv : v.size ≤ 1000000000) => specExpand_calls v A c l W1 (hr.below (below_then HB0 hb)) hv hz)
  have HO := Aside0.mk (fun h => l6Open_calls s a A c l W (hr.below HB0) hs h hz)
  have HR := Aside0.mk hR
  clear hW HG HB0 hsz hr hz hR
  have HI1 := Aside0.mk (fun W => l6Is_calls s ⟨#[60, 33, 45, 45]⟩ a W hs (by decide) (by omega) (by omega))
  have HI2 := Aside0.mk (fun W => l6Is_calls s ⟨#[60, 63]⟩ a W hs (by decide) (by omega) (by omega))
  have HI3 := Aside0.mk (fun W => l6Is_calls s ⟨#[60, 47]⟩ a W hs (by decide) (by omega) (by omega))
  have HI4 := Aside0.mk (fun W => l6Is_calls s ⟨#[60, 33, 91, 67, 68, 65, 84, 65, 91]⟩ a W hs (by decide) (by omega) (by omega))
  have HI5 := Aside0.mk (fun W => l6Is_calls s ⟨#[60]⟩ a W hs (by decide) (by omega) (by omega))
  have hbW : Below W.heap.size W W := Below.refl _ _
  cases h1 : isAtB s ⟨#[60, 33, 45, 45]⟩ (a : Nat) with
  | true =>
    have hroom : a + 4 ≤ s.size := isAt_room h1
    have HT := Aside0.mk (show R = (toO s ⟨#[45, 45, 62]⟩ (a + 4)).map fun q => (⟨4, ⟨#[]⟩, [], false, q.1⟩, q.2) by rw [HR.out, mkO, if_pos h1]; rfl)
    have HTo := Aside0.mk (fun W => l6To_calls s ⟨#[45, 45, 62]⟩ (a + 4) W hs hroom (by decide) (by decide))
    rw [toV_is, show ((a + 4 : Nat) : Int) = (a : Int) + 4 from rfl] at HTo
    rw [h1] at HI1
    clear h1
    go_enter Tryz.func42, Tryz.ntmps42
    go_upto_region 1 with fail
    rw [← HW.out]
    go_wp2_with fail
    refine (HI1.out _).mono ?_
    rintro e w1 ⟨rfl, rfl⟩
    go_wp2_with fail
    refine (HTo.out _).mono ?_
    rintro e w1 ⟨rfl, rfl⟩
    cases ho : toO s ⟨#[45, 45, 62]⟩ (a + 4) with
    | none =>
      have hfin := Aside0.mk (show R = none by rw [HT.out, ho]; rfl)
      clear ho HT
      simp only [tnV]
      obtain ⟨r0, r1, r2, r3, r4, f0, f1, f2, f3, f4⟩ := cells5 (RG.out _ hbW)
      go_wp2
      obtain ⟨X, hX, hXg, hXm⟩ := out5 (RG.out _ hbW) (.int .i64 4) (.string ⟨#[]⟩) ((.slice none 0 0)) (.bool false) (.string ⟨#[]⟩)
      rw [← hX]
      clear hX r0 r1 r2 r3 r4 f0 f1 f2 f3 f4
      obtain ⟨p0, p1, p2, p3, p4, _⟩ := cells5 hXg
      refine bodyPost_ret (v := .tuple #[.agg #[.int .i64 4, .string ⟨#[]⟩, (.slice none 0 0), .bool false, .string ⟨#[]⟩], .int .i64 (-1)]) ?hres rfl (MkOut.none hfin.out _ _ _ _ (below_moved (below_then HB.out hbW) hXm (Nat.le_refl _)))
      case hres => simp [results, Tryz.results42, go_sem, p0, p1, p2, p3, p4]
    | some q =>
      obtain ⟨t, nx⟩ := q
      have hfin := Aside0.mk (show R = some (⟨4, ⟨#[]⟩, [], false, t⟩, nx) by rw [HT.out, ho]; rfl)
      clear ho HT
      simp only [tnV]
      obtain ⟨r0, r1, r2, r3, r4, f0, f1, f2, f3, f4⟩ := cells5 (RG.out _ hbW)
      go_wp2
      obtain ⟨X, hX, hXg, hXm⟩ := out5 (RG.out _ hbW) (.int .i64 4) (.string ⟨#[]⟩) ((.slice none 0 0)) (.bool false) (.string t)
      rw [← hX]
      clear hX r0 r1 r2 r3 r4 f0 f1 f2 f3 f4
      obtain ⟨p0, p1, p2, p3, p4, _⟩ := cells5 hXg
      refine bodyPost_ret (v := .tuple #[.agg #[.int .i64 4, .string ⟨#[]⟩, (.slice none 0 0), .bool false, .string t], .int .i64 (nx)]) ?hres rfl (MkOut.at hfin.out (by omega) (below_moved (below_then HB.out hbW) hXm (Nat.le_refl _)))
      case hres => simp [results, Tryz.results42, go_sem, p0, p1, p2, p3, p4]
  | false =>
  have HR := Aside0.mk (HR.out.trans (if_neg (by rw [h1]; simp)))
  rw [h1] at HI1
  clear h1
  cases h2 : isAtB s ⟨#[60, 63]⟩ (a : Nat) with
  | true =>
    have hroom : a + 2 ≤ s.size := isAt_room h2
    have hfin := Aside0.mk (HR.out.trans (if_pos h2))
    rw [h2] at HI2
    clear h2
    go_enter Tryz.func42, Tryz.ntmps42
    go_upto_region 1 with fail
    rw [← HW.out]
    go_wp2_with fail
    refine (HI1.out _).mono ?_
    rintro e w1 ⟨rfl, rfl⟩
    go_wp2_with fail
    refine (HI2.out _).mono ?_
    rintro e w1 ⟨rfl, rfl⟩
    go_wp2_with fail
    refine (l6Told_calls s a _ hs hroom).mono ?_
    rintro e w2 ⟨m, rv, k, rfl, ⟨b, hb, hO⟩, hk, hb2⟩
    obtain ⟨Ar, cr, rfl, _⟩ := Own.slice hO
    have hout := Aside0.mk (fun (w' : World) (hO : OwnG Kd.dcl 33 w' b (.slice Ar m.raws.length cr) m.raws) (hb' : Below w.heap.size w w') =>
        show MkOut w R (.returned (.tuple #[.agg #[.int .i64 m.kind, .string m.name, .slice Ar m.raws.length cr, .bool m.empty, .string m.text], .int .i64 k])) w' from ⟨m, _, _, rfl, ⟨_, by have := HSZ.out; omega, hO⟩, (by rw [hfin.out]; exact hk), hb'⟩)
    have hO := Aside0.mk hO
    clear hk
    simp only [mkV]
    obtain ⟨r0, r1, r2, r3, r4, f0, f1, f2, f3, f4⟩ := cells5 (RG.out _ hb2)
    go_wp2
    obtain ⟨X, hX, hXg, hXm⟩ := out5 (RG.out _ hb2) (.int .i64 m.kind) (.string m.name) ((.slice Ar m.raws.length cr)) (.bool m.empty) (.string m.text)
    rw [← hX]
    clear hX r0 r1 r2 r3 r4 f0 f1 f2 f3 f4
    obtain ⟨p0, p1, p2, p3, p4, _⟩ := cells5 hXg
    refine bodyPost_ret (v := .tuple #[.agg #[.int .i64 m.kind, .string m.name, (.slice Ar m.raws.length cr), .bool m.empty, .string m.text], .int .i64 (k)]) ?hres rfl (hout.out _ (hO.out.moved hXm (by have := HSZ.out; omega)) (below_moved (below_then HB.out hb2) hXm (Nat.le_refl _)))
    case hres => simp [results, Tryz.results42, go_sem, p0, p1, p2, p3, p4]
  | false =>
  have HR := Aside0.mk (HR.out.trans (if_neg (by rw [h2]; simp)))
  rw [h2] at HI2
  clear h2
  cases h3 : isAtB s ⟨#[60, 47]⟩ (a : Nat) with
  | true =>
    have hroom : a + 2 ≤ s.size := isAt_room h3
    have HR := Aside0.mk (HR.out.trans (if_pos h3))
    rw [h3] at HI3
    clear h3
    have HN := Aside0.mk (fun W => l6Name_calls s (a + 2) W hs hroom)
    rw [show ((a + 2 : Nat) : Int) = (a : Int) + 2 from rfl] at HN
    cases hq : nameO s (a + 2) with
    | none =>
      have hfin := Aside0.mk (show R = none by rw [HR.out, closeO, hq]; rfl)
      rw [hq] at HN
      clear hq
      go_enter Tryz.func42, Tryz.ntmps42
      go_upto_region 1 with fail
      rw [← HW.out]
      go_wp2_with fail
      refine (HI1.out _).mono ?_
      rintro e w1 ⟨rfl, rfl⟩
      go_wp2_with fail
      refine (HI2.out _).mono ?_
      rintro e w1 ⟨rfl, rfl⟩
      go_wp2_with fail
      refine (HI3.out _).mono ?_
      rintro e w1 ⟨rfl, rfl⟩
      go_wp2_with fail
      refine (HN.out _).mono ?_
      rintro e w2 ⟨rfl, hb2⟩
      simp only [tnV]
      obtain ⟨r0, r1, r2, r3, r4, f0, f1, f2, f3, f4⟩ := cells5 (RG.out _ hb2)
      go_wp2
      obtain ⟨X, hX, hXg, hXm⟩ := out5 (RG.out _ hb2) (.int .i64 0) (.string ⟨#[]⟩) ((.slice none 0 0)) (.bool false) (.string ⟨#[]⟩)
      rw [← hX]
      clear hX r0 r1 r2 r3 r4 f0 f1 f2 f3 f4
      obtain ⟨p0, p1, p2, p3, p4, _⟩ := cells5 hXg
      refine bodyPost_ret (v := .tuple #[.agg #[.int .i64 0, .string ⟨#[]⟩, (.slice none 0 0), .bool false, .string ⟨#[]⟩], .int .i64 (-1)]) ?hres rfl (MkOut.none hfin.out _ _ _ _ (below_moved (below_then HB.out hb2) hXm (Nat.le_refl _)))
      case hres => simp [results, Tryz.results42, go_sem, p0, p1, p2, p3, p4]
    | some q =>
      obtain ⟨n, k⟩ := q
      have hn := nameO_next hroom hq
      have HT := Aside0.mk (show R = if isAtB s ⟨#[62]⟩ (blanksN s k : Nat) = true then some (⟨2, n, [], false, ⟨#[]⟩⟩, blanksN s k + 1) else none by rw [HR.out, closeO, hq]; rfl)
      rw [hq] at HN
      have hbl := blanksN_le s k
      obtain ⟨b, hbe⟩ : ∃ b, b = blanksN s k := ⟨_, rfl⟩
      have HBl := Aside0.mk (fun W => specBlanks_calls s k W hs (by omega))
      rw [show blanksI s k = ((blanksN s k : Nat) : Int) by rw [blanksI, if_neg (by omega), Int.toNat_natCast], ← hbe] at HBl
      rw [← hbe] at HT hbl
      have HI6 := Aside0.mk (fun W => l6Is_calls s ⟨#[62]⟩ b W hs (by decide) (by omega) (by omega))
      clear hbe hq
      cases h6 : isAtB s ⟨#[62]⟩ (b : Nat) with
      | true =>
        have hfin := Aside0.mk (HT.out.trans (if_pos h6))
        rw [h6] at HI6
        clear h6 HT
        go_enter Tryz.func42, Tryz.ntmps42
        go_upto_region 1 with fail
        rw [← HW.out]
        go_wp2_with fail
        refine (HI1.out _).mono ?_
        rintro e w1 ⟨rfl, rfl⟩
        go_wp2_with fail
        refine (HI2.out _).mono ?_
        rintro e w1 ⟨rfl, rfl⟩
        go_wp2_with fail
        refine (HI3.out _).mono ?_
        rintro e w1 ⟨rfl, rfl⟩
        go_wp2_with fail
        refine (HN.out _).mono ?_
        rintro e w2 ⟨rfl, hb2⟩
        simp only [tnV]
        go_wp2_with fail
        refine (HBl.out _).mono ?_
        rintro e w3 ⟨rfl, rfl⟩
        go_wp2_with fail
        refine (HI6.out _).mono ?_
        rintro e w3 ⟨rfl, rfl⟩
        go_wp2_with fail
        refine (HBl.out _).mono ?_
        rintro e w3 ⟨rfl, rfl⟩
        obtain ⟨r0, r1, r2, r3, r4, f0, f1, f2, f3, f4⟩ := cells5 (RG.out _ hb2)
        go_wp2
        obtain ⟨X, hX, hXg, hXm⟩ := out5 (RG.out _ hb2) (.int .i64 2) (.string n) ((.slice none 0 0)) (.bool false) (.string ⟨#[]⟩)
        rw [← hX]
        clear hX r0 r1 r2 r3 r4 f0 f1 f2 f3 f4
        obtain ⟨p0, p1, p2, p3, p4, _⟩ := cells5 hXg
        refine bodyPost_ret (v := .tuple #[.agg #[.int .i64 2, .string n, (.slice none 0 0), .bool false, .string ⟨#[]⟩], .int .i64 ((b : Nat) + 1)]) ?hres rfl (MkOut.at hfin.out (by omega) (below_moved (below_then HB.out hb2) hXm (Nat.le_refl _)))
        case hres => simp [results, Tryz.results42, go_sem, p0, p1, p2, p3, p4]
      | false =>
        have hfin := Aside0.mk (HT.out.trans (if_neg (by rw [h6]; simp)))
        rw [h6] at HI6
        clear h6 HT
        go_enter Tryz.func42, Tryz.ntmps42
        go_upto_region 1 with fail
        rw [← HW.out]
        go_wp2_with fail
        refine (HI1.out _).mono ?_
        rintro e w1 ⟨rfl, rfl⟩
        go_wp2_with fail
        refine (HI2.out _).mono ?_
        rintro e w1 ⟨rfl, rfl⟩
        go_wp2_with fail
        refine (HI3.out _).mono ?_
        rintro e w1 ⟨rfl, rfl⟩
        go_wp2_with fail
        refine (HN.out _).mono ?_
        rintro e w2 ⟨rfl, hb2⟩
        simp only [tnV]
        go_wp2_with fail
        refine (HBl.out _).mono ?_
        rintro e w3 ⟨rfl, rfl⟩
        go_wp2_with fail
        refine (HI6.out _).mono ?_
        rintro e w3 ⟨rfl, rfl⟩
        obtain ⟨r0, r1, r2, r3, r4, f0, f1, f2, f3, f4⟩ := cells5 (RG.out _ hb2)
        go_wp2
        obtain ⟨X, hX, hXg, hXm⟩ := out5 (RG.out _ hb2) (.int .i64 0) (.string ⟨#[]⟩) ((.slice none 0 0)) (.bool false) (.string ⟨#[]⟩)
        rw [← hX]
        clear hX r0 r1 r2 r3 r4 f0 f1 f2 f3 f4
        obtain ⟨p0, p1, p2, p3, p4, _⟩ := cells5 hXg
        refine bodyPost_ret (v := .tuple #[.agg #[.int .i64 0, .string ⟨#[]⟩, (.slice none 0 0), .bool false, .string ⟨#[]⟩], .int .i64 (-1)]) ?hres rfl (MkOut.none hfin.out _ _ _ _ (below_moved (below_then HB.out hb2) hXm (Nat.le_refl _)))
        case hres => simp [results, Tryz.results42, go_sem, p0, p1, p2, p3, p4]
  | false =>
  have HR := Aside0.mk (HR.out.trans (if_neg (by rw [h3]; simp)))
  rw [h3] at HI3
  clear h3
  cases h4 : isAtB s ⟨#[60, 33, 91, 67, 68, 65, 84, 65, 91]⟩ (a : Nat) with
  | true =>
    have hroom : a + 9 ≤ s.size := isAt_room h4
    have HT := Aside0.mk (show R = (toO s ⟨#[93, 93, 62]⟩ (a + 9)).map fun q => (⟨3, ⟨#[]⟩, [], false, q.1⟩, q.2) from HR.out.trans (if_pos h4))
    have HTo := Aside0.mk (fun W => l6To_calls s ⟨#[93, 93, 62]⟩ (a + 9) W hs hroom (by decide) (by decide))
    rw [toV_is, show ((a + 9 : Nat) : Int) = (a : Int) + 9 from rfl] at HTo
    rw [h4] at HI4
    clear h4
    go_enter Tryz.func42, Tryz.ntmps42
    go_upto_region 1 with fail
    rw [← HW.out]
    go_wp2_with fail
    refine (HI1.out _).mono ?_
    rintro e w1 ⟨rfl, rfl⟩
    go_wp2_with fail
    refine (HI2.out _).mono ?_
    rintro e w1 ⟨rfl, rfl⟩
    go_wp2_with fail
    refine (HI3.out _).mono ?_
    rintro e w1 ⟨rfl, rfl⟩
    go_wp2_with fail
    refine (HI4.out _).mono ?_
    rintro e w1 ⟨rfl, rfl⟩
    go_wp2_with fail
    refine (HTo.out _).mono ?_
    rintro e w1 ⟨rfl, rfl⟩
    cases ho : toO s ⟨#[93, 93, 62]⟩ (a + 9) with
    | none =>
      have hfin := Aside0.mk (show R = none by rw [HT.out, ho]; rfl)
      clear ho HT
      simp only [tnV]
      obtain ⟨r0, r1, r2, r3, r4, f0, f1, f2, f3, f4⟩ := cells5 (RG.out _ hbW)
      go_wp2
      obtain ⟨X, hX, hXg, hXm⟩ := out5 (RG.out _ hbW) (.int .i64 3) (.string ⟨#[]⟩) ((.slice none 0 0)) (.bool false) (.string ⟨#[]⟩)
      rw [← hX]
      clear hX r0 r1 r2 r3 r4 f0 f1 f2 f3 f4
      obtain ⟨p0, p1, p2, p3, p4, _⟩ := cells5 hXg
      refine bodyPost_ret (v := .tuple #[.agg #[.int .i64 3, .string ⟨#[]⟩, (.slice none 0 0), .bool false, .string ⟨#[]⟩], .int .i64 (-1)]) ?hres rfl (MkOut.none hfin.out _ _ _ _ (below_moved (below_then HB.out hbW) hXm (Nat.le_refl _)))
      case hres => simp [results, Tryz.results42, go_sem, p0, p1, p2, p3, p4]
    | some q =>
      obtain ⟨t, nx⟩ := q
      have hfin := Aside0.mk (show R = some (⟨3, ⟨#[]⟩, [], false, t⟩, nx) by rw [HT.out, ho]; rfl)
      clear ho HT
      simp only [tnV]
      obtain ⟨r0, r1, r2, r3, r4, f0, f1, f2, f3, f4⟩ := cells5 (RG.out _ hbW)
      go_wp2
      obtain ⟨X, hX, hXg, hXm⟩ := out5 (RG.out _ hbW) (.int .i64 3) (.string ⟨#[]⟩) ((.slice none 0 0)) (.bool false) (.string t)
      rw [← hX]
      clear hX r0 r1 r2 r3 r4 f0 f1 f2 f3 f4
      obtain ⟨p0, p1, p2, p3, p4, _⟩ := cells5 hXg
      refine bodyPost_ret (v := .tuple #[.agg #[.int .i64 3, .string ⟨#[]⟩, (.slice none 0 0), .bool false, .string t], .int .i64 (nx)]) ?hres rfl (MkOut.at hfin.out (by omega) (below_moved (below_then HB.out hbW) hXm (Nat.le_refl _)))
      case hres => simp [results, Tryz.results42, go_sem, p0, p1, p2, p3, p4]
  | false =>
  have HR := Aside0.mk (HR.out.trans (if_neg (by rw [h4]; simp)))
  rw [h4] at HI4
  clear h4
  cases h5 : isAtB s ⟨#[60]⟩ (a : Nat) with
  | true =>
    have hfin := Aside0.mk (HR.out.trans (if_pos h5))
    have hroom : a + 1 ≤ s.size := isAt_room h5
    rw [h5] at HI5
    clear h5
    go_enter Tryz.func42, Tryz.ntmps42
    go_upto_region 1 with fail
    rw [← HW.out]
    go_wp2_with fail
    refine (HI1.out _).mono ?_
    rintro e w1 ⟨rfl, rfl⟩
    go_wp2_with fail
    refine (HI2.out _).mono ?_
    rintro e w1 ⟨rfl, rfl⟩
    go_wp2_with fail
    refine (HI3.out _).mono ?_
    rintro e w1 ⟨rfl, rfl⟩
    go_wp2_with fail
    refine (HI4.out _).mono ?_
    rintro e w1 ⟨rfl, rfl⟩
    go_wp2_with fail
    refine (HI5.out _).mono ?_
    rintro e w1 ⟨rfl, rfl⟩
    go_wp2_with fail
    refine (HO.out hroom).mono ?_
    rintro e w2 ⟨m, rv, k, rfl, ⟨b, hb, hO⟩, hk, hb2⟩
    obtain ⟨Ar, cr, rfl, _⟩ := Own.slice hO
    have hout := Aside0.mk (fun (w' : World) (hO : OwnG Kd.dcl 33 w' b (.slice Ar m.raws.length cr) m.raws) (hb' : Below w.heap.size w w') =>
        show MkOut w R (.returned (.tuple #[.agg #[.int .i64 m.kind, .string m.name, .slice Ar m.raws.length cr, .bool m.empty, .string m.text], .int .i64 k])) w' from ⟨m, _, _, rfl, ⟨_, by have := HSZ.out; omega, hO⟩, (by rw [hfin.out]; exact hk), hb'⟩)
    have hO := Aside0.mk hO
    clear hk
    simp only [mkV]
    obtain ⟨r0, r1, r2, r3, r4, f0, f1, f2, f3, f4⟩ := cells5 (RG.out _ hb2)
    go_wp2
    obtain ⟨X, hX, hXg, hXm⟩ := out5 (RG.out _ hb2) (.int .i64 m.kind) (.string m.name) ((.slice Ar m.raws.length cr)) (.bool m.empty) (.string m.text)
    rw [← hX]
    clear hX r0 r1 r2 r3 r4 f0 f1 f2 f3 f4
    obtain ⟨p0, p1, p2, p3, p4, _⟩ := cells5 hXg
    refine bodyPost_ret (v := .tuple #[.agg #[.int .i64 m.kind, .string m.name, (.slice Ar m.raws.length cr), .bool m.empty, .string m.text], .int .i64 (k)]) ?hres rfl (hout.out _ (hO.out.moved hXm (by have := HSZ.out; omega)) (below_moved (below_then HB.out hb2) hXm (Nat.le_refl _)))
    case hres => simp [results, Tryz.results42, go_sem, p0, p1, p2, p3, p4]
  | false =>
  have HR := Aside0.mk (HR.out.trans (if_neg (by rw [h5]; simp)))
  rw [h5] at HI5
  clear h5
  have hll := ltN_le s a (by omega)
  go_enter Tryz.func42, Tryz.ntmps42
  go_upto_region 1 with fail
  rw [← HW.out]
  go_wp2_with fail
  refine (HI1.out _).mono ?_
  rintro e w1 ⟨rfl, rfl⟩
  go_wp2_with fail
  refine (HI2.out _).mono ?_
  rintro e w1 ⟨rfl, rfl⟩
  go_wp2_with fail
  refine (HI3.out _).mono ?_
  rintro e w1 ⟨rfl, rfl⟩
  go_wp2_with fail
  refine (HI4.out _).mono ?_
  rintro e w1 ⟨rfl, rfl⟩
  go_wp2_with fail
  refine (HI5.out _).mono ?_
  rintro e w1 ⟨rfl, rfl⟩
  go_wp2
  go_loopg [14] (s.size - a) (fun g i wr => ∃ k : Nat, i = .int .i64 k ∧ k + g = s.size ∧ a ≤ k ∧ Aside (ltN s a = ltN s k) ∧ W = wr)
  case atStart => exact ⟨a, rfl, by omega, Nat.le_refl _, rfl, rfl⟩
  case round =>
    obtain ⟨k, rfl, hk, hak, hlt, rfl⟩ := hrel
    by_cases hkl : k < s.size
    · obtain ⟨y, hy⟩ : ∃ y : Nat, (s[k]'hkl).toNat = y := ⟨_, rfl⟩
      have hby := Aside0.mk (show bt s k = y by rw [← hy, bt_get])
      by_cases hy60 : y = 60
      · have hy1 : ((y : Int) != 60) = false := by simp [hy60]
        have hstop : ltN s a = k := by rw [hlt.out, ltN_stop (fun h => h.2 (by rw [hby.out, hy60]))]
        clear hy60
        have HR := Aside0.mk (show R = if hasB (s.extract a k) [93, 93, 62] = true then none else (expandV (s.extract a k) l).map fun x => (⟨3, ⟨#[]⟩, [], false, x⟩, k) by rw [HR.out, textO, hstop])
        obtain ⟨v, hv⟩ : ∃ v, v = s.extract a k := ⟨_, rfl⟩
        have hvz : v.size ≤ 1000000000 := by rw [hv, ByteArray.size_extract]; omega
        have HXv := Aside0.mk (HX.out v W hbW hvz)
        have HH := Aside0.mk (fun W => l5Has_calls v ⟨#[93, 93, 62]⟩ W hvz (by decide) (by decide))
        rw [show hasB v (⟨#[93, 93, 62]⟩ : ByteArray).data.toList = hasB v [93, 93, 62] from rfl] at HH
        rw [← hv] at HR
        obtain ⟨ex, hex⟩ : ∃ ex, ex = expandV v l := ⟨_, rfl⟩
        rw [← hex] at HXv HR
        rw [hv] at HXv HH
        clear hex hstop hlt
        have i1 : (a : Int) ≤ (k : Int) := by omega
        have i2 : (k : Int) ≤ (s.size : Int) := by omega
        cases ex with
        | none =>
          have hfin := Aside0.mk (show R = none by rw [HR.out]; split <;> rfl)
          clear HR hv hvz
          go_wp2_with fail
          refine (HXv.out).mono ?_
          rintro e w2 ⟨rfl, hb2⟩
          simp only [optV]
          obtain ⟨r0, r1, r2, r3, r4, f0, f1, f2, f3, f4⟩ := cells5 (RG.out _ hb2)
          go_wp2
          obtain ⟨X, hX, hXg, hXm⟩ := out5 (RG.out _ hb2) (.int .i64 0) (.string ⟨#[]⟩) ((.slice none 0 0)) (.bool false) (.string ⟨#[]⟩)
          rw [← hX]
          clear hX r0 r1 r2 r3 r4 f0 f1 f2 f3 f4
          obtain ⟨p0, p1, p2, p3, p4, _⟩ := cells5 hXg
          refine bodyPost_ret (v := .tuple #[.agg #[.int .i64 0, .string ⟨#[]⟩, (.slice none 0 0), .bool false, .string ⟨#[]⟩], .int .i64 (-1)]) ?hres rfl (MkOut.none hfin.out _ _ _ _ (below_moved (below_then HB.out hb2) hXm (Nat.le_refl _)))
          case hres => simp [results, Tryz.results42, go_sem, p0, p1, p2, p3, p4]
        | some x =>
          cases hh : hasB v [93, 93, 62] with
          | true =>
            have hfin := Aside0.mk (show R = none by rw [HR.out, if_pos hh])
            rw [← hv, hh, hv] at HH
            clear HR hh hv hvz
            go_wp2_with fail
            refine (HXv.out).mono ?_
            rintro e w2 ⟨rfl, hb2⟩
            simp only [optV]
            go_wp2_with fail
            refine (HH.out _).mono ?_
            rintro e w3 ⟨rfl, rfl⟩
            obtain ⟨r0, r1, r2, r3, r4, f0, f1, f2, f3, f4⟩ := cells5 (RG.out _ hb2)
            go_wp2
            obtain ⟨X, hX, hXg, hXm⟩ := out5 (RG.out _ hb2) (.int .i64 0) (.string ⟨#[]⟩) ((.slice none 0 0)) (.bool false) (.string ⟨#[]⟩)
            rw [← hX]
            clear hX r0 r1 r2 r3 r4 f0 f1 f2 f3 f4
            obtain ⟨p0, p1, p2, p3, p4, _⟩ := cells5 hXg
            refine bodyPost_ret (v := .tuple #[.agg #[.int .i64 0, .string ⟨#[]⟩, (.slice none 0 0), .bool false, .string ⟨#[]⟩], .int .i64 (-1)]) ?hres rfl (MkOut.none hfin.out _ _ _ _ (below_moved (below_then HB.out hb2) hXm (Nat.le_refl _)))
            case hres => simp [results, Tryz.results42, go_sem, p0, p1, p2, p3, p4]
          | false =>
            have hfin := Aside0.mk (HR.out.trans (if_neg (by rw [hh]; simp)))
            rw [← hv, hh, hv] at HH
            clear HR hh hv hvz
            go_wp2_with fail
            refine (HXv.out).mono ?_
            rintro e w2 ⟨rfl, hb2⟩
            simp only [optV]
            go_wp2_with fail
            refine (HH.out _).mono ?_
            rintro e w3 ⟨rfl, rfl⟩
            obtain ⟨r0, r1, r2, r3, r4, f0, f1, f2, f3, f4⟩ := cells5 (RG.out _ hb2)
            go_wp2
            obtain ⟨X, hX, hXg, hXm⟩ := out5 (RG.out _ hb2) (.int .i64 3) (.string ⟨#[]⟩) ((.slice none 0 0)) (.bool false) (.string x)
            rw [← hX]
            clear hX r0 r1 r2 r3 r4 f0 f1 f2 f3 f4
            obtain ⟨p0, p1, p2, p3, p4, _⟩ := cells5 hXg
            refine bodyPost_ret (v := .tuple #[.agg #[.int .i64 3, .string ⟨#[]⟩, (.slice none 0 0), .bool false, .string x], .int .i64 (k)]) ?hres rfl (MkOut.at hfin.out (by omega) (below_moved (below_then HB.out hb2) hXm (Nat.le_refl _)))
            case hres => simp [results, Tryz.results42, go_sem, p0, p1, p2, p3, p4]
      · have hy1 : ((y : Int) != 60) = true := by simp; omega
        have hnx := Aside0.mk (show ltN s a = ltN s (k + 1) by rw [hlt.out, ltN_go hkl (by rw [hby.out]; exact hy60)])
        clear hlt hy60
        go_wp2
        go_roundg (gk - 1)
        case measure => omega
        case rel => exact ⟨k + 1, by go_num, by omega, by omega, hnx.out, rfl⟩
    · have hstop : ltN s a = k := by rw [hlt.out, ltN_stop (fun h => hkl h.1)]
      have HR := Aside0.mk (show R = if hasB (s.extract a k) [93, 93, 62] = true then none else (expandV (s.extract a k) l).map fun x => (⟨3, ⟨#[]⟩, [], false, x⟩, k) by rw [HR.out, textO, hstop])
      obtain ⟨v, hv⟩ : ∃ v, v = s.extract a k := ⟨_, rfl⟩
      have hvz : v.size ≤ 1000000000 := by rw [hv, ByteArray.size_extract]; omega
      have HXv := Aside0.mk (HX.out v W hbW hvz)
      have HH := Aside0.mk (fun W => l5Has_calls v ⟨#[93, 93, 62]⟩ W hvz (by decide) (by decide))
      rw [show hasB v (⟨#[93, 93, 62]⟩ : ByteArray).data.toList = hasB v [93, 93, 62] from rfl] at HH
      rw [← hv] at HR
      obtain ⟨ex, hex⟩ : ∃ ex, ex = expandV v l := ⟨_, rfl⟩
      rw [← hex] at HXv HR
      rw [hv] at HXv HH
      clear hex hstop hlt
      have i1 : (a : Int) ≤ (k : Int) := by omega
      have i2 : (k : Int) ≤ (s.size : Int) := by omega
      cases ex with
      | none =>
        have hfin := Aside0.mk (show R = none by rw [HR.out]; split <;> rfl)
        clear HR hv hvz
        go_wp2_with fail
        refine (HXv.out).mono ?_
        rintro e w2 ⟨rfl, hb2⟩
        simp only [optV]
        obtain ⟨r0, r1, r2, r3, r4, f0, f1, f2, f3, f4⟩ := cells5 (RG.out _ hb2)
        go_wp2
        obtain ⟨X, hX, hXg, hXm⟩ := out5 (RG.out _ hb2) (.int .i64 0) (.string ⟨#[]⟩) ((.slice none 0 0)) (.bool false) (.string ⟨#[]⟩)
        rw [← hX]
        clear hX r0 r1 r2 r3 r4 f0 f1 f2 f3 f4
        obtain ⟨p0, p1, p2, p3, p4, _⟩ := cells5 hXg
        refine bodyPost_ret (v := .tuple #[.agg #[.int .i64 0, .string ⟨#[]⟩, (.slice none 0 0), .bool false, .string ⟨#[]⟩], .int .i64 (-1)]) ?hres rfl (MkOut.none hfin.out _ _ _ _ (below_moved (below_then HB.out hb2) hXm (Nat.le_refl _)))
        case hres => simp [results, Tryz.results42, go_sem, p0, p1, p2, p3, p4]
      | some x =>
        cases hh : hasB v [93, 93, 62] with
        | true =>
          have hfin := Aside0.mk (show R = none by rw [HR.out, if_pos hh])
          rw [← hv, hh, hv] at HH
          clear HR hh hv hvz
          go_wp2_with fail
          refine (HXv.out).mono ?_
          rintro e w2 ⟨rfl, hb2⟩
          simp only [optV]
          go_wp2_with fail
          refine (HH.out _).mono ?_
          rintro e w3 ⟨rfl, rfl⟩
          obtain ⟨r0, r1, r2, r3, r4, f0, f1, f2, f3, f4⟩ := cells5 (RG.out _ hb2)
          go_wp2
          obtain ⟨X, hX, hXg, hXm⟩ := out5 (RG.out _ hb2) (.int .i64 0) (.string ⟨#[]⟩) ((.slice none 0 0)) (.bool false) (.string ⟨#[]⟩)
          rw [← hX]
          clear hX r0 r1 r2 r3 r4 f0 f1 f2 f3 f4
          obtain ⟨p0, p1, p2, p3, p4, _⟩ := cells5 hXg
          refine bodyPost_ret (v := .tuple #[.agg #[.int .i64 0, .string ⟨#[]⟩, (.slice none 0 0), .bool false, .string ⟨#[]⟩], .int .i64 (-1)]) ?hres rfl (MkOut.none hfin.out _ _ _ _ (below_moved (below_then HB.out hb2) hXm (Nat.le_refl _)))
          case hres => simp [results, Tryz.results42, go_sem, p0, p1, p2, p3, p4]
        | false =>
          have hfin := Aside0.mk (HR.out.trans (if_neg (by rw [hh]; simp)))
          rw [← hv, hh, hv] at HH
          clear HR hh hv hvz
          go_wp2_with fail
          refine (HXv.out).mono ?_
          rintro e w2 ⟨rfl, hb2⟩
          simp only [optV]
          go_wp2_with fail
          refine (HH.out _).mono ?_
          rintro e w3 ⟨rfl, rfl⟩
          obtain ⟨r0, r1, r2, r3, r4, f0, f1, f2, f3, f4⟩ := cells5 (RG.out _ hb2)
          go_wp2
          obtain ⟨X, hX, hXg, hXm⟩ := out5 (RG.out _ hb2) (.int .i64 3) (.string ⟨#[]⟩) ((.slice none 0 0)) (.bool false) (.string x)
          rw [← hX]
          clear hX r0 r1 r2 r3 r4 f0 f1 f2 f3 f4
          obtain ⟨p0, p1, p2, p3, p4, _⟩ := cells5 hXg
          refine bodyPost_ret (v := .tuple #[.agg #[.int .i64 3, .string ⟨#[]⟩, (.slice none 0 0), .bool false, .string x], .int .i64 (k)]) ?hres rfl (MkOut.at hfin.out (by omega) (below_moved (below_then HB.out hb2) hXm (Nat.le_refl _)))
          case hres => simp [results, Tryz.results42, go_sem, p0, p1, p2, p3, p4]
end Go.Proofs.YtmfkdgdamepbcaaGreatDoor
end
section
/- MarkAt of the reference. -/
namespace Go.Proofs.YtmfkdgdamepbcaaGreatDoor
open Go.RowKit Go.Lib
set_option linter.unusedVariables false
set_option linter.unusedSimpArgs false
set_option maxHeartbeats 0
set_option maxRecDepth 100000
def maM (o : Option (Mk × Nat)) : Mk := match o with | none => ⟨0, ⟨#[]⟩, [], false, ⟨#[]⟩⟩ | some q => q.1
def maK (o : Option (Mk × Nat)) : Int := match o with | none => 0 | some q => (q.2 : Nat)
def maV (o : Option (Mk × Nat)) (rv : Value) : Value := .tuple #[mkV (maM o) rv, .int .i64 (maK o), .bool o.isSome]
def MaOut (w : World) (o : Option (Mk × Nat)) (e : Ending) (w' : World) : Prop := ∃ rv, e = .returned (maV o rv) ∧ RawsAt w w' rv (maM o).raws ∧ Below w.heap.size w w'
theorem MaOut.none {w w' : World} {o : Option (Mk × Nat)} (h : o = .none) (hb : Below w.heap.size w w') :
    MaOut w o (.returned (.tuple #[.agg #[.int .i64 0, .string ⟨#[]⟩, .slice .none 0 0, .bool false, .string ⟨#[]⟩], .int .i64 0, .bool false])) w' := by
  subst h
  exact ⟨_, rfl, RawsAt.nil _ _, hb⟩
theorem MaOut.some {w w' : World} {o : Option (Mk × Nat)} {m : Mk} {k : Nat} {A : Option Addr} {c : Nat} (h : o = .some (m, k)) (hr : RawsAt w w' (.slice A m.raws.length c) m.raws) (hb : Below w.heap.size w w') :
    MaOut w o (.returned (.tuple #[.agg #[.int .i64 m.kind, .string m.name, .slice A m.raws.length c, .bool m.empty, .string m.text], .int .i64 (k : Nat), .bool true])) w' := by
  subst h
  exact ⟨_, rfl, hr, hb⟩
theorem specMarkAt_calls {ok : Nat → Prop} (s : ByteArray) (a : Int) (A : Option Addr) (c : Nat) (l : List Dcl) (w : World) (hr : Row Kd.dcl w ok A l) (hs : s.size ≤ 1000000000) (ha0 : -9223372036854775808 ≤ a) (ha1 : a ≤ 9223372036854775807) (hz : ∀ d ∈ l, d.pre.size ≤ 1048576 ∧ d.uri.size ≤ 1048576) :
    Calls Tryz.prog 10 #[.string s, .int .i64 a, .slice A l.length c] w (MaOut w (markO s a l)) := by
  obtain ⟨R, hR⟩ : ∃ R, R = markO s a l := ⟨_, rfl⟩
  rw [← hR]
  obtain ⟨W, hW, HB0, hsz, HG⟩ := boxed w #[.int .i64 0, .string ⟨#[]⟩, .slice none 0 0, .bool false, .string ⟨#[]⟩] 29
  have HW := Aside0.mk hW
  have RG := Aside0.mk (fun W1 (hb : Below W.heap.size W W1) => (hb.block _ hsz).trans HG)
  have HB := Aside0.mk HB0
  have HSZ := Aside0.mk (show w.heap.size < W.heap.size from hsz)
  have HEn := Aside0.mk (specEntsOk_calls A c l W (hr.below HB0) hz)
  have HM := Aside0.mk (fun n W1 (hb : Below W.heap.size W W1) h => l6Mark_calls s n A c l W1 (hr.below (below_then HB0 hb)) hs h hz)
  clear hW HG HB0 hsz hr
  have hbW : Below W.heap.size W W := Below.refl _ _
  by_cases h0 : a < 0
  · have hfin := Aside0.mk (show R = none by rw [hR, markO, if_neg (by omega)])
    clear hR
    go_enter Tryz.func10, Tryz.ntmps10
    go_upto_region 1 with fail
    rw [← HW.out]
    obtain ⟨r0, r1, r2, r3, r4, f0, f1, f2, f3, f4⟩ := cells5 (RG.out _ hbW)
    go_wp2
    obtain ⟨X, hX, hXg, hXm⟩ := out5 (RG.out _ hbW) (.int .i64 0) (.string ⟨#[]⟩) ((.slice none 0 0)) (.bool false) (.string ⟨#[]⟩)
    rw [← hX]
    clear hX r0 r1 r2 r3 r4 f0 f1 f2 f3 f4
    obtain ⟨p0, p1, p2, p3, p4, _⟩ := cells5 hXg
    refine bodyPost_ret (v := .tuple #[.agg #[.int .i64 0, .string ⟨#[]⟩, (.slice none 0 0), .bool false, .string ⟨#[]⟩], .int .i64 (0), .bool false]) ?hres rfl (MaOut.none hfin.out (below_moved (below_then HB.out hbW) hXm (Nat.le_refl _)))
    case hres => simp [results, Tryz.results10, go_sem, p0, p1, p2, p3, p4]
  obtain ⟨n, rfl⟩ : ∃ n : Nat, a = n := ⟨a.toNat, by omega⟩
  by_cases h1 : n < s.size
  case neg =>
    have hfin := Aside0.mk (show R = none by rw [hR, markO, if_neg (by omega)])
    have i1 : (s.size : Int) ≤ (n : Int) := by omega
    clear hR
    go_enter Tryz.func10, Tryz.ntmps10
    go_upto_region 1 with fail
    rw [← HW.out]
    obtain ⟨r0, r1, r2, r3, r4, f0, f1, f2, f3, f4⟩ := cells5 (RG.out _ hbW)
    go_wp2
    obtain ⟨X, hX, hXg, hXm⟩ := out5 (RG.out _ hbW) (.int .i64 0) (.string ⟨#[]⟩) ((.slice none 0 0)) (.bool false) (.string ⟨#[]⟩)
    rw [← hX]
    clear hX r0 r1 r2 r3 r4 f0 f1 f2 f3 f4
    obtain ⟨p0, p1, p2, p3, p4, _⟩ := cells5 hXg
    refine bodyPost_ret (v := .tuple #[.agg #[.int .i64 0, .string ⟨#[]⟩, (.slice none 0 0), .bool false, .string ⟨#[]⟩], .int .i64 (0), .bool false]) ?hres rfl (MaOut.none hfin.out (below_moved (below_then HB.out hbW) hXm (Nat.le_refl _)))
    case hres => simp [results, Tryz.results10, go_sem, p0, p1, p2, p3, p4]
  have i1 : ¬ ((s.size : Int) ≤ (n : Int)) := by omega
  have i2 : ¬ (s.size ≤ n) := by omega
  cases he : entsOk l with
  | false =>
    have hfin := Aside0.mk (show R = none by rw [hR, markO, if_neg (by rw [he]; simp)])
    rw [he] at HEn
    clear hR he
    go_enter Tryz.func10, Tryz.ntmps10
    go_upto_region 1 with fail
    rw [← HW.out]
    go_wp2_with fail
    refine (HEn.out).mono ?_
    rintro e w1 ⟨rfl, hb1⟩
    obtain ⟨r0, r1, r2, r3, r4, f0, f1, f2, f3, f4⟩ := cells5 (RG.out _ hb1)
    go_wp2
    obtain ⟨X, hX, hXg, hXm⟩ := out5 (RG.out _ hb1) (.int .i64 0) (.string ⟨#[]⟩) ((.slice none 0 0)) (.bool false) (.string ⟨#[]⟩)
    rw [← hX]
    clear hX r0 r1 r2 r3 r4 f0 f1 f2 f3 f4
    obtain ⟨p0, p1, p2, p3, p4, _⟩ := cells5 hXg
    refine bodyPost_ret (v := .tuple #[.agg #[.int .i64 0, .string ⟨#[]⟩, (.slice none 0 0), .bool false, .string ⟨#[]⟩], .int .i64 (0), .bool false]) ?hres rfl (MaOut.none hfin.out (below_moved (below_then HB.out hb1) hXm (Nat.le_refl _)))
    case hres => simp [results, Tryz.results10, go_sem, p0, p1, p2, p3, p4]
  | true =>
  have HR := Aside0.mk (show R = (mkO s n l).bind fun q => if textOk q.1.text = true then some q else none by rw [hR, markO, if_pos ⟨by omega, by omega, he⟩, Int.toNat_natCast])
  rw [he] at HEn
  clear hR he hz
  go_enter Tryz.func10, Tryz.ntmps10
  go_upto_region 1 with fail
  rw [← HW.out]
  go_wp2_with fail
  refine (HEn.out).mono ?_
  rintro e w1 ⟨rfl, hb1⟩
  go_wp2_with fail
  refine (HM.out n _ hb1 h1).mono ?_
  rintro e w2 ⟨m, rv, k, rfl, ⟨b, hb, hO⟩, hk, hb2⟩
  have hb2 := below_then hb1 hb2
  obtain ⟨Ar, cr, rfl, _⟩ := Own.slice hO
  have hbb := Aside0.mk (show W.heap.size ≤ b from Nat.le_trans hb1.size hb)
  have hO := Aside0.mk hO
  simp only [mkV]
  obtain ⟨W3, hW3, HB3, hsz3, HG3⟩ := boxed w2 #[.int .i64 m.kind, .string m.name, .slice Ar m.raws.length cr, .bool m.empty, .string m.text] 29
  have hO3 := Aside0.mk (hO.out.below HB3)
  have hb3 := below_then hb2 HB3
  have HW3 := Aside0.mk hW3
  obtain ⟨m0, m1, m2, m3, m4, n0, n1, n2, n3, n4⟩ := cells5 HG3
  clear hW3 hb hb1 hb2
  go_upto_region 4 with fail
  rw [← HW3.out]
  cases hmk : mkO s n l with
  | none =>
    have hfin := Aside0.mk (show R = none by rw [HR.out, hmk]; rfl)
    rw [hmk] at hk
    obtain rfl : k = -1 := hk
    clear hmk HR
    obtain ⟨r0, r1, r2, r3, r4, f0, f1, f2, f3, f4⟩ := cells5 (RG.out _ hb3)
    go_wp2
    obtain ⟨X, hX, hXg, hXm⟩ := out5 (RG.out _ hb3) (.int .i64 0) (.string ⟨#[]⟩) ((.slice none 0 0)) (.bool false) (.string ⟨#[]⟩)
    rw [← hX]
    clear hX r0 r1 r2 r3 r4 f0 f1 f2 f3 f4
    obtain ⟨p0, p1, p2, p3, p4, _⟩ := cells5 hXg
    refine bodyPost_ret (v := .tuple #[.agg #[.int .i64 0, .string ⟨#[]⟩, (.slice none 0 0), .bool false, .string ⟨#[]⟩], .int .i64 (0), .bool false]) ?hres rfl (MaOut.none hfin.out (below_moved (below_then HB.out hb3) hXm (Nat.le_refl _)))
    case hres => simp [results, Tryz.results10, go_sem, p0, p1, p2, p3, p4]
  | some q =>
    obtain ⟨m', k'⟩ := q
    rw [hmk] at hk
    obtain ⟨rfl, rfl⟩ : m = m' ∧ k = (k' : Nat) := hk
    have HR := Aside0.mk (show R = if textOk m.text = true then some (m, k') else none by rw [HR.out, hmk]; rfl)
    have hms : m.text.size ≤ 1099511627776 := by have := mk_size (by omega) hmk; omega
    clear hmk
    go_wp2_with fail
    refine (specTextOk_calls m.text _ hms).mono ?_
    rintro e w4 ⟨rfl, hb4⟩
    have hb4b := hb4
    have hb4 := below_then hb3 hb4
    have hO4 := Aside0.mk (hO3.out.below hb4b)
    have HG4 := (hb4b.block _ hsz3).trans HG3
    clear m0 m1 m2 m3 m4 n0 n1 n2 n3 n4
    obtain ⟨m0, m1, m2, m3, m4, n0, n1, n2, n3, n4⟩ := cells5 HG4
    clear hb4b HG4 HB3
    cases ht : textOk m.text with
    | false =>
      have hfin := Aside0.mk (show R = none by rw [HR.out, ht]; rfl)
      clear ht HR
      obtain ⟨r0, r1, r2, r3, r4, f0, f1, f2, f3, f4⟩ := cells5 (RG.out _ hb4)
      go_wp2
      obtain ⟨X, hX, hXg, hXm⟩ := out5 (RG.out _ hb4) (.int .i64 0) (.string ⟨#[]⟩) ((.slice none 0 0)) (.bool false) (.string ⟨#[]⟩)
      rw [← hX]
      clear hX r0 r1 r2 r3 r4 f0 f1 f2 f3 f4
      obtain ⟨p0, p1, p2, p3, p4, _⟩ := cells5 hXg
      refine bodyPost_ret (v := .tuple #[.agg #[.int .i64 0, .string ⟨#[]⟩, (.slice none 0 0), .bool false, .string ⟨#[]⟩], .int .i64 (0), .bool false]) ?hres rfl (MaOut.none hfin.out (below_moved (below_then HB.out hb4) hXm (Nat.le_refl _)))
      case hres => simp [results, Tryz.results10, go_sem, p0, p1, p2, p3, p4]
    | true =>
      have hfin := Aside0.mk (show R = some (m, k') by rw [HR.out, ht]; rfl)
      clear ht HR
      obtain ⟨r0, r1, r2, r3, r4, f0, f1, f2, f3, f4⟩ := cells5 (RG.out _ hb4)
      go_wp2
      obtain ⟨X, hX, hXg, hXm⟩ := out5 (RG.out _ hb4) (.int .i64 m.kind) (.string m.name) ((.slice Ar m.raws.length cr)) (.bool m.empty) (.string m.text)
      rw [← hX]
      clear hX r0 r1 r2 r3 r4 f0 f1 f2 f3 f4
      obtain ⟨p0, p1, p2, p3, p4, _⟩ := cells5 hXg
      refine bodyPost_ret (v := .tuple #[.agg #[.int .i64 m.kind, .string m.name, (.slice Ar m.raws.length cr), .bool m.empty, .string m.text], .int .i64 (k'), .bool true]) ?hres rfl (MaOut.some hfin.out ⟨b, (by have := HSZ.out; have := hbb.out; omega), hO4.out.moved hXm (by have := HSZ.out; have := hbb.out; omega)⟩ (below_moved (below_then HB.out hb4) hXm (Nat.le_refl _)))
      case hres => simp [results, Tryz.results10, go_sem, p0, p1, p2, p3, p4]
end Go.Proofs.YtmfkdgdamepbcaaGreatDoor
end
