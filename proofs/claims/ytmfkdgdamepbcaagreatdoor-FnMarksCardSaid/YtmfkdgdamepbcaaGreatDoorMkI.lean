/- MarkAt of the program. -/
import Derived.Test.YtmfkdgdamepbcaaGreatDoorScB
import Derived.Deep.RegionWith
import Derived.RegionTactic
namespace Go.Proofs.YtmfkdgdamepbcaaGreatDoor
open Go.RowKit Go.Lib
set_option linter.unusedVariables false
set_option linter.unusedSimpArgs false
set_option maxHeartbeats 0
set_option maxRecDepth 100000
theorem implMarkAt_calls {ok : Nat → Prop} (s : ByteArray) (a : Int) (A : Option Addr) (c : Nat) (l : List Dcl) (w : World) (hr : Row Kd.dcl w ok A l) (hs : s.size ≤ 1000000000) (ha0 : -9223372036854775808 ≤ a) (ha1 : a ≤ 9223372036854775807) (hz : ∀ d ∈ l, d.pre.size ≤ 1048576 ∧ d.uri.size ≤ 1048576) (hE : Env w) :
    Calls Tryz.prog 9 #[.string s, .int .i64 a, .slice A l.length c] w (MaOut w (markO s a l)) := by
  obtain ⟨R, hR⟩ : ∃ R, R = markO s a l := ⟨_, rfl⟩
  rw [← hR]
  obtain ⟨W, hW, HB0, hsz, HG⟩ := boxed w #[.int .i64 0, .string ⟨#[]⟩, .slice none 0 0, .bool false, .string ⟨#[]⟩] 29
  have HW := Aside0.mk hW
  have RG := Aside0.mk (fun W1 (hb : Below W.heap.size W W1) => (hb.block _ hsz).trans HG)
  have HB := Aside0.mk HB0
  have HSZ := Aside0.mk (show w.heap.size < W.heap.size from hsz)
  have HEn := Aside0.mk (implEntsOk_calls A c l W (hr.below HB0) hz (hE.below HB0))
  have HM := Aside0.mk (fun g a W0 W1 (hb : Below W.heap.size W W0) (h : Sc W1 g s a false) (B : Bs W0 g W1) => scMark_calls s a g A c l W0 W1 hs h B (hr.below (below_then HB0 hb)) hz)
  have HE := Aside0.mk (fun W1 (hb : Below W.heap.size W W1) => hE.below (below_then HB0 hb))
  have HIn := Aside0.mk (fun W => in_calls a 0 ((s.size : Int) - 1) W)
  clear hW HG HB0 hsz hr hE hz
  have hbW : Below W.heap.size W W := Below.refl _ _
  have hw1 : wrap64 ((s.size : Int) - 1) = (s.size : Int) - 1 := by unfold wrap64; omega
  by_cases hin : 0 ≤ a ∧ a < s.size
  case neg =>
    have hfin := Aside0.mk (show R = none by rw [hR, markO, if_neg (fun h => hin ⟨h.1, h.2.1⟩)])
    rw [show (decide ((0 : Int) ≤ a) && decide (a ≤ (s.size : Int) - 1)) = false by simp only [Bool.and_eq_false_iff, decide_eq_false_iff_not]; omega] at HIn
    clear hR hin
    go_enter Tryz.func9, Tryz.ntmps9
    go_upto_region 1 with fail
    rw [← HW.out]
    go_wp2_with fail
    refine (HIn.out _).mono ?_
    rintro e w1 ⟨rfl, rfl⟩
    obtain ⟨r0, r1, r2, r3, r4, f0, f1, f2, f3, f4⟩ := cells5 (RG.out _ hbW)
    go_wp2
    obtain ⟨X, hX, hXg, hXm⟩ := out5 (RG.out _ hbW) (.int .i64 0) (.string ⟨#[]⟩) ((.slice none 0 0)) (.bool false) (.string ⟨#[]⟩)
    rw [← hX]
    clear hX r0 r1 r2 r3 r4 f0 f1 f2 f3 f4
    obtain ⟨p0, p1, p2, p3, p4, _⟩ := cells5 hXg
    refine bodyPost_ret (v := .tuple #[.agg #[.int .i64 0, .string ⟨#[]⟩, (.slice none 0 0), .bool false, .string ⟨#[]⟩], .int .i64 (0), .bool false]) ?hres rfl (MaOut.none hfin.out (below_moved (below_then HB.out hbW) hXm (Nat.le_refl _)))
    case hres => simp [results, Tryz.results9, go_sem, p0, p1, p2, p3, p4]
  obtain ⟨n, rfl⟩ : ∃ n : Nat, a = n := ⟨a.toNat, by omega⟩
  have hn : n < s.size := by omega
  rw [show (decide ((0 : Int) ≤ (n : Int)) && decide ((n : Int) ≤ (s.size : Int) - 1)) = true by simp only [Bool.and_eq_true, decide_eq_true_eq]; omega] at HIn
  cases he : entsOk l with
  | false =>
    have hfin := Aside0.mk (show R = none by rw [hR, markO, if_neg (by rw [he]; simp)])
    rw [he] at HEn
    clear hR he hin
    go_enter Tryz.func9, Tryz.ntmps9
    go_upto_region 1 with fail
    rw [← HW.out]
    go_wp2_with fail
    refine (HIn.out _).mono ?_
    rintro e w1 ⟨rfl, rfl⟩
    go_wp2_with fail
    refine (HEn.out).mono ?_
    rintro e w1 ⟨rfl, hb1⟩
    obtain ⟨r0, r1, r2, r3, r4, f0, f1, f2, f3, f4⟩ := cells5 (RG.out _ hb1)
    go_wp2
    obtain ⟨X, hX, hXg, hXm⟩ := out5 (RG.out _ hb1) (.int .i64 0) (.string ⟨#[]⟩) ((.slice none 0 0)) (.bool false) (.string ⟨#[]⟩)
    rw [← hX]
    clear hX r0 r1 r2 r3 r4 f0 f1 f2 f3 f4
    obtain ⟨p0, p1, p2, p3, p4, _⟩ := cells5 hXg
    refine bodyPost_ret (v := .tuple #[.agg #[.int .i64 0, .string ⟨#[]⟩, (.slice none 0 0), .bool false, .string ⟨#[]⟩], .int .i64 (0), .bool false]) ?hres rfl (MaOut.none hfin.out (below_moved (below_then HB.out hb1) hXm (Nat.le_refl _)))
    case hres => simp [results, Tryz.results9, go_sem, p0, p1, p2, p3, p4]
  | true =>
  have HR := Aside0.mk (show R = (mkO s n l).bind fun q => if textOk q.1.text = true then some q else none by rw [hR, markO, if_pos ⟨by omega, by omega, he⟩, Int.toNat_natCast])
  rw [he] at HEn
  clear hR he hin
  go_enter Tryz.func9, Tryz.ntmps9
  go_upto_region 1 with fail
  rw [← HW.out]
  go_wp2_with fail
  refine (HIn.out _).mono ?_
  rintro e w1 ⟨rfl, rfl⟩
  go_wp2_with fail
  refine (HEn.out).mono ?_
  rintro e w1 ⟨rfl, hb1⟩
  obtain ⟨W2, hW2, HB2, hsz2, HG2⟩ := boxed w1 #[.string s, .int .i64 (n : Nat), .bool false] 75
  have hS2 : Sc W2 w1.heap.size s n false := ⟨HG2, by omega⟩
  have hBs : Bs w1 w1.heap.size W2 := ⟨HE.out _ hb1, HB2, Nat.le_refl _⟩
  have hb2 := below_then hb1 HB2
  have HW2 := Aside0.mk hW2
  have hgW := hb1.size
  clear hW2 HG2
  go_upto_region 4 with fail
  rw [← HW2.out]
  obtain ⟨g, hge⟩ : ∃ g, g = w1.heap.size := ⟨_, rfl⟩
  rw [← hge] at hS2 hBs hgW hsz2 ⊢
  clear hge
  go_wp2_with fail
  refine (HM.out g n w1 W2 hb1 hS2 hBs).mono ?_
  rintro e w3 ⟨m, rv, rfl, ⟨b, hb, hO⟩, hm3, hpost⟩
  obtain ⟨Ar, cr, rfl, _⟩ := Own.slice hO
  have hb3 := below_moved hb2 hm3 hgW
  have HB3 := Aside0.mk hb3.size
  have hwb := Aside0.mk (show w.heap.size < b by have := HSZ.out; have := hb2.size; omega)
  simp only [mkV]
  obtain ⟨W4, hW4, HB4, hsz4, HG4⟩ := boxed w3 #[.int .i64 m.kind, .string m.name, .slice Ar m.raws.length cr, .bool m.empty, .string m.text] 29
  have hO4 := Aside0.mk (hO.below HB4)
  have hb4 := below_then hb3 HB4
  have HW4 := Aside0.mk hW4
  have HG4 := Aside0.mk HG4
  clear hW4 hb hO hm3 hS2 hBs hb2 hb3
  obtain ⟨m0, m1, m2, m3, m4, n0, n1, n2, n3, n4⟩ := cells5 HG4.out
  cases hmk : mkO s n l with
  | none =>
    have hfin := Aside0.mk (show R = none by rw [HR.out, hmk]; rfl)
    rw [hmk] at hpost
    obtain ⟨a4, hS3⟩ := hpost
    have hS4 := hS3.below HB4
    clear hmk HR hS3 HB4
    obtain ⟨c0, c1, c2, _, _⟩ := hS4.cells
    go_upto_region 5 with fail
    rw [← HW4.out]
    obtain ⟨r0, r1, r2, r3, r4, f0, f1, f2, f3, f4⟩ := cells5 (RG.out _ hb4)
    go_wp2
    obtain ⟨X, hX, hXg, hXm⟩ := out5 (RG.out _ hb4) (.int .i64 0) (.string ⟨#[]⟩) ((.slice none 0 0)) (.bool false) (.string ⟨#[]⟩)
    rw [← hX]
    clear hX r0 r1 r2 r3 r4 f0 f1 f2 f3 f4
    obtain ⟨p0, p1, p2, p3, p4, _⟩ := cells5 hXg
    refine bodyPost_ret (v := .tuple #[.agg #[.int .i64 0, .string ⟨#[]⟩, (.slice none 0 0), .bool false, .string ⟨#[]⟩], .int .i64 (0), .bool false]) ?hres rfl (MaOut.none hfin.out (below_moved (below_then HB.out hb4) hXm (Nat.le_refl _)))
    case hres => simp [results, Tryz.results9, go_sem, p0, p1, p2, p3, p4]
  | some q =>
    obtain ⟨m', k⟩ := q
    rw [hmk] at hpost
    obtain ⟨rfl, hS3⟩ : m = m' ∧ Sc w3 g s k false := hpost
    have HR := Aside0.mk (show R = if textOk m.text = true then some (m, k) else none by rw [HR.out, hmk]; rfl)
    have hms : m.text.size ≤ 1099511627776 := by have := mk_size (by omega) hmk; omega
    have hS4 := hS3.below HB4
    clear hmk hS3 HB4
    obtain ⟨c0, c1, c2, _, _⟩ := hS4.cells
    have HT := Aside0.mk (implTextOk_calls m.text W4 hms (HE.out _ hb4))
    go_upto_region 5 with fail
    rw [← HW4.out]
    go_wp2_with fail
    refine (HT.out).mono ?_
    rintro e w5 ⟨rfl, hb5⟩
    have hO5 := Aside0.mk (hO4.out.below hb5)
    have HG5 := (hb5.block _ hsz4).trans HG4.out
    have hS5 := hS4.below hb5
    have hb5 := below_then hb4 hb5
    clear m0 m1 m2 m3 m4 n0 n1 n2 n3 n4 c0 c1 c2 hS4
    obtain ⟨m0, m1, m2, m3, m4, n0, n1, n2, n3, n4⟩ := cells5 HG5
    clear HG5
    cases ht : textOk m.text with
    | false =>
      have hfin := Aside0.mk (show R = none by rw [HR.out, ht]; rfl)
      clear ht HR
      obtain ⟨r0, r1, r2, r3, r4, f0, f1, f2, f3, f4⟩ := cells5 (RG.out _ hb5)
      go_wp2
      obtain ⟨X, hX, hXg, hXm⟩ := out5 (RG.out _ hb5) (.int .i64 0) (.string ⟨#[]⟩) ((.slice none 0 0)) (.bool false) (.string ⟨#[]⟩)
      rw [← hX]
      clear hX r0 r1 r2 r3 r4 f0 f1 f2 f3 f4
      obtain ⟨p0, p1, p2, p3, p4, _⟩ := cells5 hXg
      refine bodyPost_ret (v := .tuple #[.agg #[.int .i64 0, .string ⟨#[]⟩, (.slice none 0 0), .bool false, .string ⟨#[]⟩], .int .i64 (0), .bool false]) ?hres rfl (MaOut.none hfin.out (below_moved (below_then HB.out hb5) hXm (Nat.le_refl _)))
      case hres => simp [results, Tryz.results9, go_sem, p0, p1, p2, p3, p4]
    | true =>
      have hfin := Aside0.mk (show R = some (m, k) by rw [HR.out, ht]; rfl)
      clear ht HR
      obtain ⟨c0, c1, c2, _, _⟩ := hS5.cells
      have hS5 := Aside0.mk hS5
      obtain ⟨r0, r1, r2, r3, r4, f0, f1, f2, f3, f4⟩ := cells5 (RG.out _ hb5)
      go_upto_region 7 with fail
      have e1 : ¬ g = w.heap.size := by have := HSZ.out; omega
      have e2 : ¬ w.heap.size = g := fun e => e1 e.symm
      have e3 : ¬ w3.heap.size = w.heap.size := by have := HSZ.out; have := HB3.out; omega
      have e4 : ¬ w.heap.size = w3.heap.size := fun e => e3 e.symm
      go_region
      all_goals
        obtain ⟨X, hX, hXg, hXm⟩ := out5 (RG.out _ hb5) (.int .i64 m.kind) (.string m.name) (.slice Ar m.raws.length cr) (.bool m.empty) (.string m.text)
        rw [← hX]
        clear hX r0 r1 r2 r3 r4 f0 f1 f2 f3 f4 m0 m1 m2 m3 m4 n0 n1 n2 n3 n4 c0 c1 c2
        have hXm := hXm.drew
        have hXg : X.drew.heap[w.heap.size]? = some (.cells #[.int .i64 m.kind, .string m.name, .slice Ar m.raws.length cr, .bool m.empty, .string m.text] 29 (0, 0)) := hXg
        generalize X.drew = Y at hXm hXg ⊢
        obtain ⟨p0, p1, p2, p3, p4, _⟩ := cells5 hXg
        go_wp2
        refine bodyPost_ret (v := .tuple #[.agg #[.int .i64 m.kind, .string m.name, .slice Ar m.raws.length cr, .bool m.empty, .string m.text], .int .i64 k, .bool true]) ?hres rfl (MaOut.some hfin.out ⟨b, (by have := hwb.out; omega), hO5.out.moved hXm hwb.out⟩ (below_moved (below_then HB.out hb5) hXm (Nat.le_refl _)))
        case hres => simp [results, Tryz.results9, go_sem, p0, p1, p2, p3, p4]
end Go.Proofs.YtmfkdgdamepbcaaGreatDoor
