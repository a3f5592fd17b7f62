/- Expand of the program. -/
import Derived.Test.YtmfkdgdamepbcaaGreatDoorStands
import Derived.Test.YtmfkdgdamepbcaaGreatDoorScnP
namespace Go.Proofs.YtmfkdgdamepbcaaGreatDoor
open Go.RowKit Go.Lib
set_option linter.unusedVariables false
set_option linter.unusedSimpArgs false
set_option maxHeartbeats 0
set_option maxRecDepth 100000
theorem implExpand_calls {ok : Nat → Prop} (s : ByteArray) (A : Option Addr) (c : Nat) (l : List Dcl) (w : World) (hr : Row Kd.dcl w ok A l) (hs : s.size ≤ 1000000000) (hz : ∀ d ∈ l, d.pre.size ≤ 1048576 ∧ d.uri.size ≤ 1048576) (hE : Env w) :
    Calls Tryz.prog 140 #[.string s, .slice A l.length c] w fun e w' => e = .returned (optV (expandV s l)) ∧ Below w.heap.size w w' := by
  obtain ⟨R, hR⟩ : ∃ R, R = expandV s l := ⟨_, rfl⟩
  rw [← hR]
  have HRow := Aside0.mk (fun W1 (hb : Below w.heap.size w W1) => hr.below hb)
  have HE := Aside0.mk (fun W1 (hb : Below w.heap.size w W1) => hE.below hb)
  have HS := Aside0.mk (signsOk_calls s w (by omega) hE)
  have HEn := Aside0.mk (fun W1 (hb : Below w.heap.size w W1) => implEntsOk_calls A c l W1 (hr.below hb) hz (hE.below hb))
  clear hr hz hE
  by_cases hbig : s.size ≤ 1500
  case neg =>
    have hfin := Aside0.mk (show optV R = .tuple #[.string ⟨#[]⟩, .bool false] by rw [hR, expandV, decide_eq_false hbig, if_neg (by simp)]; rfl)
    clear hR
    go_enter Tryz.func140, Tryz.ntmps140
    go_wp2
    go_ret2
    exact ⟨by rw [hfin.out]; rfl, Below.refl _ _⟩
  cases hq : signsB s with
  | false =>
    have hfin := Aside0.mk (show optV R = .tuple #[.string ⟨#[]⟩, .bool false] by rw [hR, expandV, if_neg (by rw [hq]; simp)]; rfl)
    rw [hq] at HS
    clear hq hR
    go_enter Tryz.func140, Tryz.ntmps140
    go_wp2_with fail
    refine (HS.out).mono ?_
    rintro e w1 ⟨rfl, hb1⟩
    go_wp2
    go_ret2
    exact ⟨by rw [hfin.out]; rfl, hb1⟩
  | true =>
  cases hq2 : entsOk l with
  | false =>
    have hfin := Aside0.mk (show optV R = .tuple #[.string ⟨#[]⟩, .bool false] by rw [hR, expandV, if_neg (by rw [hq2]; simp)]; rfl)
    rw [hq] at HS
    rw [hq2] at HEn
    clear hq hR hq2
    go_enter Tryz.func140, Tryz.ntmps140
    go_wp2_with fail
    refine (HS.out).mono ?_
    rintro e w1 ⟨rfl, hb1⟩
    go_wp2_with fail
    refine (HEn.out _ hb1).mono ?_
    rintro e w2 ⟨rfl, hb2⟩
    go_wp2
    go_ret2
    exact ⟨by rw [hfin.out]; rfl, below_then hb1 hb2⟩
  | true =>
  have HR := Aside0.mk (show R = (expN s l 0 ⟨#[]⟩).bind okText by rw [hR, expandV, decide_eq_true hbig, if_pos ⟨by rw [hq]; rfl, hq2⟩]; rfl)
  have hst := Aside0.mk (stands_size hq2)
  have hpl := Aside0.mk (fun e (he : e ∈ l) => ((small_ents hq2).2 e he).1)
  rw [hq] at HS
  rw [hq2] at HEn
  clear hq hR hq2
  go_enter Tryz.func140, Tryz.ntmps140
  go_wp2_with fail
  refine (HS.out).mono ?_
  rintro e w1 ⟨rfl, hb1⟩
  go_wp2_with fail
  refine (HEn.out _ hb1).mono ?_
  rintro e w2 ⟨rfl, hb2⟩
  have hb02 := below_then hb1 hb2
  clear hb1 hb2
  have hex := Aside0.mk (show s = s.extract 0 s.size from str_ext (by rw [tail_list]; rfl))
  go_wp2
  go_loopg [0, 6] s.size (fun g v u wr => ∃ (out t : ByteArray) (a : Nat), v = .string t ∧ Aside (t = s.extract a s.size) ∧ u = .string out ∧ a + g = s.size ∧ out.size ≤ 1000 * a ∧ Aside (R = (expN s l a out).bind okText) ∧ Below w.heap.size w wr)
  case atStart => exact ⟨⟨#[]⟩, s, 0, rfl, hex.out, rfl, by omega, by decide, HR.out, hb02⟩
  case round =>
    clear hb02
    obtain ⟨out, t, a, rfl, ht, rfl, hk, hoz, ha, hb⟩ := hrel
    have ht := ht.out
    have hta : t.size = s.size - a := by rw [ht, ByteArray.size_extract]; omega
    rcases first_or s 38 (s.size - a) a rfl with ⟨m, m1, m2, m3, m4⟩ | hno
    case inr =>
      have HC := Aside0.mk (Cut_calls t ⟨#[38]⟩ wr (by omega) (HE.out _ hb) t ⟨#[]⟩ false (by rw [ht]; exact cut_tail_no s [38] a (by rw [tail_noindex s 38 a hno]; omega)))
      have HRe := Aside0.mk (show R = okText (out ++ t) by rw [ha.out, exp_no (by omega) hno, ← ht]; rfl)
      have hzz : ¬ (9223372036854775807 < out.size + t.size) := by omega
      have hsz : (out ++ t).size ≤ 1099511627776 := by rw [ByteArray.size_append]; omega
      clear hno ha ht
      go_wp2_with fail
      refine (HC.out).mono ?_
      rintro e w3 ⟨rfl, hd3⟩
      have hb3 := below_then hb hd3.below
      clear hd3
      obtain ⟨o2, ho2⟩ : ∃ o2, o2 = out ++ t := ⟨_, rfl⟩
      have HT := Aside0.mk (implTextOk_calls (out ++ t) w3 hsz (HE.out _ hb3))
      cases htx : textOk (out ++ t) with
      | false =>
        have hfin := Aside0.mk (show optV R = .tuple #[.string ⟨#[]⟩, .bool false] by rw [HRe.out, okText, htx]; rfl)
        rw [htx] at HT
        clear htx ho2
        go_wp2_with fail
        refine (HT.out).mono ?_
        rintro e w4 ⟨rfl, hb4⟩
        go_wp2
        go_ret2
        exact ⟨by rw [hfin.out]; rfl, below_then hb3 hb4⟩
      | true =>
        have hfin := Aside0.mk (show optV R = .tuple #[.string (out ++ t), .bool true] by rw [HRe.out, okText, htx]; rfl)
        rw [htx] at HT
        clear htx ho2
        go_wp2_with fail
        refine (HT.out).mono ?_
        rintro e w4 ⟨rfl, hb4⟩
        go_wp2
        go_ret2
        exact ⟨by rw [hfin.out]; rfl, below_then hb3 hb4⟩
    case inl =>
      have hidx := tail_index s 38 a m m1 m2 m3 m4
      obtain ⟨r1, hr1⟩ : ∃ r1, r1 = s.extract a m := ⟨_, rfl⟩
      obtain ⟨r2, hr2⟩ : ∃ r2, r2 = s.extract (m + 1) s.size := ⟨_, rfl⟩
      have z1 : r1.size = m - a := by rw [hr1, ByteArray.size_extract]; omega
      have z2 : r2.size ≤ 1000000000 := by rw [hr2, ByteArray.size_extract]; omega
      have HC := Aside0.mk (Cut_calls t ⟨#[38]⟩ wr (by omega) (HE.out _ hb) r1 r2 true (by rw [ht, hr1, hr2]; have h := cut_tail s [38] a (m - a) hidx; rw [show a + (m - a) = m by omega] at h; exact h))
      have hzz : ¬ (9223372036854775807 < out.size + r1.size) := by omega
      clear hidx ht
      rcases first_or s 59 (s.size - (m + 1)) (m + 1) rfl with ⟨k, k1, k2, k3, k4⟩ | hno
      case inr =>
        have hfin := Aside0.mk (show optV R = .tuple #[.string ⟨#[]⟩, .bool false] by rw [ha.out, exp_open m1 m2 m3 m4 hno]; rfl)
        have HD := Aside0.mk (fun W hE => Cut_calls r2 ⟨#[59]⟩ W z2 hE r2 ⟨#[]⟩ false (by rw [hr2]; exact cut_tail_no s [59] (m + 1) (by rw [tail_noindex s 59 (m + 1) hno]; omega)))
        have HSt := Aside0.mk (fun W (hb : Below w.heap.size w W) => stands_calls r2 A c l W (HRow.out W hb) z2 hpl.out)
        obtain ⟨o, ho⟩ : ∃ o, o = standO r2 l := ⟨_, rfl⟩
        rw [← ho] at HSt
        clear hno ha hr1 hr2 ho m3 m4
        go_wp2_with fail
        refine (HC.out).mono ?_
        rintro e w3 ⟨rfl, hd3⟩
        have hb3 := below_then hb hd3.below
        clear hd3
        go_wp2_with fail
        refine (HD.out _ (HE.out _ hb3)).mono ?_
        rintro e w4 ⟨rfl, hd4⟩
        have hb4 := below_then hb3 hd4.below
        clear hd4
        go_wp2_with fail
        refine (HSt.out _ hb4).mono ?_
        rintro e w5 ⟨rfl, hb5⟩
        have hb5 := below_then hb4 hb5
        clear HC HD HSt
        cases o with
        | none =>
          simp only [optV]
          go_wp2
          go_ret2
          exact ⟨by rw [hfin.out]; rfl, hb5⟩
        | some o =>
          simp only [optV]
          go_wp2
          go_ret2
          exact ⟨by rw [hfin.out]; rfl, hb5⟩
      case inl =>
        have hidx := tail_index s 59 (m + 1) k k1 k2 k3 k4
        obtain ⟨r3, hr3⟩ : ∃ r3, r3 = s.extract (m + 1) k := ⟨_, rfl⟩
        have z3 : r3.size ≤ 1000000000 := by rw [hr3, ByteArray.size_extract]; omega
        have HD := Aside0.mk (fun W hE => Cut_calls r2 ⟨#[59]⟩ W z2 hE r3 (s.extract (k + 1) s.size) true (by rw [hr2, hr3]; have h := cut_tail s [59] (m + 1) (k - (m + 1)) hidx; rw [show m + 1 + (k - (m + 1)) = k by omega] at h; exact h))
        have HSt := Aside0.mk (fun W (hb : Below w.heap.size w W) => stands_calls r3 A c l W (HRow.out W hb) z3 hpl.out)
        have hat := Aside0.mk (exp_ref (l := l) (out := out) m1 k1 k2 m3 m4 k3 k4)
        have hz1 := hst.out (s.extract (m + 1) k)
        rw [← hr3] at hat hz1
        rw [← hr1] at hat
        have hso := Aside0.mk (show standO r3 l = if (standsV r3 l).2 = true then some (standsV r3 l).1 else none from rfl)
        obtain ⟨v, hv⟩ : ∃ v, v = (standsV r3 l).1 := ⟨_, rfl⟩
        obtain ⟨q, hq⟩ : ∃ q, q = (standsV r3 l).2 := ⟨_, rfl⟩
        rw [← hv] at hat hz1 hso
        rw [← hq] at hat hso
        clear hidx hr1 hr2 hr3 m3 m4 k3 k4 hv hq
        cases q with
        | false =>
          rw [hso.out, if_neg (by simp)] at HSt
          simp only [optV] at HSt
          have hfin := Aside0.mk (show optV R = .tuple #[.string ⟨#[]⟩, .bool false] by rw [ha.out, hat.out]; rfl)
          clear ha hat hso
          go_wp2_with fail
          refine (HC.out).mono ?_
          rintro e w3 ⟨rfl, hd3⟩
          have hb3 := below_then hb hd3.below
          clear hd3
          go_wp2_with fail
          refine (HD.out _ (HE.out _ hb3)).mono ?_
          rintro e w4 ⟨rfl, hd4⟩
          have hb4 := below_then hb3 hd4.below
          clear hd4
          go_wp2_with fail
          refine (HSt.out _ hb4).mono ?_
          rintro e w5 ⟨rfl, hb5⟩
          go_wp2
          go_ret2
          exact ⟨by rw [hfin.out]; rfl, below_then hb4 hb5⟩
        | true =>
          rw [hso.out, if_pos rfl] at HSt
          simp only [optV] at HSt
          have hnx := Aside0.mk (show R = (expN s l (k + 1) (out ++ r1 ++ v)).bind okText by rw [ha.out, hat.out, if_pos rfl])
          have hoz1 : (out ++ r1).size = out.size + r1.size := ByteArray.size_append
          have hoz2 : (out ++ r1 ++ v).size ≤ 1000 * (k + 1) := by rw [ByteArray.size_append, hoz1]; omega
          have hz2 : ¬ (9223372036854775807 < (out ++ r1).size + v.size) := by omega
          clear ha hat hso
          go_wp2_with fail
          refine (HC.out).mono ?_
          rintro e w3 ⟨rfl, hd3⟩
          have hb3 := below_then hb hd3.below
          clear hd3
          go_wp2_with fail
          refine (HD.out _ (HE.out _ hb3)).mono ?_
          rintro e w4 ⟨rfl, hd4⟩
          have hb4 := below_then hb3 hd4.below
          clear hd4
          go_wp2_with fail
          refine (HSt.out _ hb4).mono ?_
          rintro e w5 ⟨rfl, hb5⟩
          go_wp2
          go_roundg (s.size - (k + 1))
          case measure => omega
          case rel => exact ⟨_, s.extract (k + 1) s.size, k + 1, rfl, rfl, rfl, by omega, hoz2, hnx.out, below_then hb4 hb5⟩
end Go.Proofs.YtmfkdgdamepbcaaGreatDoor
