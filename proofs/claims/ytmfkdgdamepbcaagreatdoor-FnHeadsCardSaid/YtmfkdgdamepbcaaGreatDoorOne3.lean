/- l3One of the reference: what stands between & and ; . -/
import Derived.Test.YtmfkdgdamepbcaaGreatDoorScanS
import Derived.Test.YtmfkdgdamepbcaaGreatDoorSignTS
namespace Go.Proofs.YtmfkdgdamepbcaaGreatDoor
open Go.RowKit Go.Lib
set_option linter.unusedVariables false
set_option linter.unusedSimpArgs false
set_option maxHeartbeats 4000000
set_option maxRecDepth 100000
/-- The number behind a #. -/
def hashN (s : ByteArray) : Int := if bt s 1 = 120 then numB (s.extract 2 s.size) 16 6 else numB (s.extract 1 s.size) 10 7
def standsV (s : ByteArray) (l : List Dcl) : ByteArray × Bool :=
  if 1 < s.size ∧ bt s 0 = 35 then (signB (hashN s), decide (0 ≤ hashN s) && isSign (hashN s))
  else if isKnown s = true then (knownV s, true)
  else match l.find? (fun e => decide (e.pre = s)) with | some e => (e.uri, true) | none => (⟨#[]⟩, false)
theorem numGo_le (base : Int) (h1 : 0 ≤ base) : ∀ (l : List UInt8) (n r : Int), 0 ≤ n → numGo base l n = some r → 0 ≤ r
  | [], n, r, h, e => by injection e with e; omega
  | b :: l, n, r, h, e => by
    rw [numGo] at e
    split at e
    · cases e
    · exact numGo_le base h1 l _ r (by have := Int.mul_nonneg h h1; omega) e
theorem find_skip {l : List Dcl} {s : ByteArray} {j : Nat} (h : j < l.length) (he : ¬ (l[j]'h).pre = s) : (l.drop j).find? (fun e => decide (e.pre = s)) = (l.drop (j + 1)).find? (fun e => decide (e.pre = s)) := by
  rw [List.drop_eq_getElem_cons h, List.find?_cons_of_neg (by simp [he])]
theorem find_hit {l : List Dcl} {s : ByteArray} {j : Nat} (h : j < l.length) (he : (l[j]'h).pre = s) : (l.drop j).find? (fun e => decide (e.pre = s)) = some (l[j]'h) := by
  rw [List.drop_eq_getElem_cons h, List.find?_cons_of_pos (by simp [he])]
/-- .. where it is no number. -/
theorem l3One_named {ok : Nat → Prop} (s : ByteArray) (A : Option Addr) (c : Nat) (l : List Dcl) (w : World) (hr : Row Kd.dcl w ok A l) (hs : s.size ≤ 1000000000) (hn : ¬ (1 < s.size ∧ bt s 0 = 35)) :
    Calls Tryz.prog 125 #[.string s, .slice A l.length c] w fun e w' => e = .returned (.tuple #[.string (standsV s l).1, .bool (standsV s l).2]) ∧ Below w.heap.size w w' := by
  have hmax := hr.max
  obtain ⟨R, hR⟩ : ∃ R, R = standsV s l := ⟨_, rfl⟩
  have HR := Aside0.mk (show R = if isKnown s = true then (knownV s, true) else match l.find? (fun e => decide (e.pre = s)) with | some e => (e.uri, true) | none => (⟨#[]⟩, false) by rw [hR, standsV, if_neg hn])
  rw [← hR]
  clear hR
  by_cases h1 : 1 < s.size
  · have h0 : 0 < s.size := by omega
    have hb0 : ¬ bt s 0 = 35 := fun h => hn ⟨h1, h⟩
    obtain ⟨x, hx⟩ : ∃ x : Nat, (s[0]'h0).toNat = x := ⟨_, rfl⟩
    have hx35 : ((x : Int) == 35) = false := by
      rw [beq_eq_false_iff_ne]
      intro e
      exact hb0 (by rw [← bt_get s 0 h0, hx]; omega)
    have i9 : (1 : Int) < (s.size : Int) := by omega
    clear hb0 hn
    have HK := Aside0.mk (fun W => l3Known_calls s W)
    cases hk : isKnown s with
    | true =>
      have hfin := Aside0.mk (show R = (knownV s, true) by rw [HR.out, if_pos hk])
      have hne := known_yes hk
      obtain ⟨v, hv⟩ : ∃ v, v = knownV s := ⟨_, rfl⟩
      rw [← hv] at hne HK hfin
      have n1 := str_ne0 hne
      have n2 := str_neE hne
      clear hk hv hne
      go_enter Tryz.func125, Tryz.ntmps125
      go_wp2_with fail
      refine (HK.out _).mono ?_
      rintro e w1 ⟨rfl, rfl⟩
      go_wp2_with fail
      refine (HK.out _).mono ?_
      rintro e w1 ⟨rfl, rfl⟩
      go_wp2
      go_ret2
      exact ⟨by rw [hfin.out]; rfl, Below.refl _ _⟩
    | false =>
      have HR := Aside0.mk (show R = match (l.drop 0).find? (fun e => decide (e.pre = s)) with | some e => (e.uri, true) | none => (⟨#[]⟩, false) by rw [HR.out, if_neg (by rw [hk]; decide), List.drop_zero])
      rw [known_no hk] at HK
      clear hk
      go_enter Tryz.func125, Tryz.ntmps125
      go_wp2_with fail
      refine (HK.out _).mono ?_
      rintro e w1 ⟨rfl, rfl⟩
      go_wp2
      go_loopg [7] l.length (fun k i wr => ∃ (j : Nat), i = .int .i64 j ∧ j + k = l.length ∧ Aside (R = match (l.drop j).find? (fun e => decide (e.pre = s)) with | some e => (e.uri, true) | none => (⟨#[]⟩, false)) ∧ w = wr)
      case atStart => exact ⟨0, rfl, by omega, HR.out, rfl⟩
      case round =>
        obtain ⟨j, rfl, hk, ha, rfl⟩ := hrel
        by_cases hlt : j < l.length
        · obtain ⟨b, o, rfl, hbl, d0, d1⟩ := dcl_at hr j hlt
          have i1 : (j : Int) < (l.length : Int) := by omega
          by_cases he : (l[j]'hlt).pre = s
          · have hfin := Aside0.mk (show R = ((l[j]'hlt).uri, true) by rw [ha.out, find_hit hlt he])
            rw [he] at d0
            clear ha he hr
            go_wp2
            go_ret2
            exact ⟨by rw [hfin.out]; rfl, Below.refl _ _⟩
          · have hnx := Aside0.mk (by have := ha.out; rw [find_skip hlt he] at this; exact this)
            have n1 := str_neb he
            clear ha he hr
            go_wp2
            go_roundg (gk - 1)
            case measure => omega
            case rel => exact ⟨j + 1, by go_num, by omega, hnx.out, rfl⟩
        · have hfin := Aside0.mk (show R = (⟨#[]⟩, false) by rw [ha.out, List.drop_eq_nil_of_le (by omega)]; rfl)
          clear ha hr
          go_wp2
          go_ret2
          exact ⟨by rw [hfin.out]; rfl, Below.refl _ _⟩
  · have i9 : ¬ ((1 : Int) < (s.size : Int)) := by omega
    clear hn
    have HK := Aside0.mk (fun W => l3Known_calls s W)
    cases hk : isKnown s with
    | true =>
      have hfin := Aside0.mk (show R = (knownV s, true) by rw [HR.out, if_pos hk])
      have hne := known_yes hk
      obtain ⟨v, hv⟩ : ∃ v, v = knownV s := ⟨_, rfl⟩
      rw [← hv] at hne HK hfin
      have n1 := str_ne0 hne
      have n2 := str_neE hne
      clear hk hv hne
      go_enter Tryz.func125, Tryz.ntmps125
      go_wp2_with fail
      refine (HK.out _).mono ?_
      rintro e w1 ⟨rfl, rfl⟩
      go_wp2_with fail
      refine (HK.out _).mono ?_
      rintro e w1 ⟨rfl, rfl⟩
      go_wp2
      go_ret2
      exact ⟨by rw [hfin.out]; rfl, Below.refl _ _⟩
    | false =>
      have HR := Aside0.mk (show R = match (l.drop 0).find? (fun e => decide (e.pre = s)) with | some e => (e.uri, true) | none => (⟨#[]⟩, false) by rw [HR.out, if_neg (by rw [hk]; decide), List.drop_zero])
      rw [known_no hk] at HK
      clear hk
      go_enter Tryz.func125, Tryz.ntmps125
      go_wp2_with fail
      refine (HK.out _).mono ?_
      rintro e w1 ⟨rfl, rfl⟩
      go_wp2
      go_loopg [7] l.length (fun k i wr => ∃ (j : Nat), i = .int .i64 j ∧ j + k = l.length ∧ Aside (R = match (l.drop j).find? (fun e => decide (e.pre = s)) with | some e => (e.uri, true) | none => (⟨#[]⟩, false)) ∧ w = wr)
      case atStart => exact ⟨0, rfl, by omega, HR.out, rfl⟩
      case round =>
        obtain ⟨j, rfl, hk, ha, rfl⟩ := hrel
        by_cases hlt : j < l.length
        · obtain ⟨b, o, rfl, hbl, d0, d1⟩ := dcl_at hr j hlt
          have i1 : (j : Int) < (l.length : Int) := by omega
          by_cases he : (l[j]'hlt).pre = s
          · have hfin := Aside0.mk (show R = ((l[j]'hlt).uri, true) by rw [ha.out, find_hit hlt he])
            rw [he] at d0
            clear ha he hr
            go_wp2
            go_ret2
            exact ⟨by rw [hfin.out]; rfl, Below.refl _ _⟩
          · have hnx := Aside0.mk (by have := ha.out; rw [find_skip hlt he] at this; exact this)
            have n1 := str_neb he
            clear ha he hr
            go_wp2
            go_roundg (gk - 1)
            case measure => omega
            case rel => exact ⟨j + 1, by go_num, by omega, hnx.out, rfl⟩
        · have hfin := Aside0.mk (show R = (⟨#[]⟩, false) by rw [ha.out, List.drop_eq_nil_of_le (by omega)]; rfl)
          clear ha hr
          go_wp2
          go_ret2
          exact ⟨by rw [hfin.out]; rfl, Below.refl _ _⟩
/-- .. where it is a number. -/
theorem l3One_number (s : ByteArray) (A : Option Addr) (n c : Nat) (l : List Dcl) (w : World) (hs : s.size ≤ 1000000000) (h1 : 1 < s.size) (h35 : bt s 0 = 35) :
    Calls Tryz.prog 125 #[.string s, .slice A n c] w fun e w' => e = .returned (.tuple #[.string (standsV s l).1, .bool (standsV s l).2]) ∧ Below w.heap.size w w' := by
  obtain ⟨R, hR⟩ : ∃ R, R = standsV s l := ⟨_, rfl⟩
  have HR := Aside0.mk (show R = (signB (hashN s), decide (0 ≤ hashN s) && isSign (hashN s)) by rw [hR, standsV, if_pos ⟨h1, h35⟩])
  rw [← hR]
  clear hR
  have h0 : 0 < s.size := by omega
  have hx0 : (s[0]'h0).toNat = 35 := by rw [bt_get, h35]
  have i9 : (1 : Int) < (s.size : Int) := by omega
  have hS := Aside0.mk (fun m W => specSignText_calls m W)
  have hI := Aside0.mk (fun m W => specIsSign_calls m W)
  obtain ⟨v, hv⟩ : ∃ v, v = hashN s := ⟨_, rfl⟩
  rw [← hv] at HR
  by_cases hx : bt s 1 = 120
  · have hx1 : (s[1]'h1).toNat = 120 := by rw [bt_get, hx]
    have HN := Aside0.mk (fun W => l3Number_calls (s.extract 2 s.size) 16 6 W (by rw [ByteArray.size_extract]; omega) (by omega) (by omega) (by omega))
    rw [show numB (s.extract 2 s.size) 16 6 = v by rw [hv, hashN, if_pos hx]] at HN
    clear hv hx
    go_enter Tryz.func125, Tryz.ntmps125
    go_wp2_with fail
    refine (HN.out _).mono ?_
    rintro e w1 ⟨rfl, rfl⟩
    obtain ⟨z, hz⟩ : ∃ z, z = signB v := ⟨_, rfl⟩
    have HS := Aside0.mk (fun W => hS.out v W)
    have HI := Aside0.mk (fun W => hI.out v W)
    rw [← hz] at HS HR
    obtain ⟨t, ht⟩ : ∃ t, t = isSign v := ⟨_, rfl⟩
    rw [← ht] at HI HR
    clear hz ht hS hI
    go_wp2_with fail
    refine (HS.out _).mono ?_
    rintro e w2 ⟨rfl, hb2⟩
    by_cases hv0 : 0 ≤ v
    · have hfin := Aside0.mk (show R = (z, t) by rw [HR.out, decide_eq_true hv0]; rfl)
      go_wp2_with fail
      refine (HI.out _).mono ?_
      rintro e w3 ⟨rfl, rfl⟩
      go_wp2
      go_ret2
      exact ⟨by rw [hfin.out]; rfl, hb2⟩
    · have hfin := Aside0.mk (show R = (z, false) by rw [HR.out, decide_eq_false hv0]; rfl)
      go_wp2
      go_ret2
      exact ⟨by rw [hfin.out]; rfl, hb2⟩
  · obtain ⟨x, hx1⟩ : ∃ x : Nat, (s[1]'h1).toNat = x := ⟨_, rfl⟩
    have hx2 : ((x : Int) == 120) = false := by
      rw [beq_eq_false_iff_ne]
      intro e
      exact hx (by rw [← bt_get s 1 h1, hx1]; omega)
    have HN := Aside0.mk (fun W => l3Number_calls (s.extract 1 s.size) 10 7 W (by rw [ByteArray.size_extract]; omega) (by omega) (by omega) (by omega))
    rw [show numB (s.extract 1 s.size) 10 7 = v by rw [hv, hashN, if_neg hx]] at HN
    clear hv hx
    go_enter Tryz.func125, Tryz.ntmps125
    go_wp2_with fail
    refine (HN.out _).mono ?_
    rintro e w1 ⟨rfl, rfl⟩
    obtain ⟨z, hz⟩ : ∃ z, z = signB v := ⟨_, rfl⟩
    have HS := Aside0.mk (fun W => hS.out v W)
    have HI := Aside0.mk (fun W => hI.out v W)
    rw [← hz] at HS HR
    obtain ⟨t, ht⟩ : ∃ t, t = isSign v := ⟨_, rfl⟩
    rw [← ht] at HI HR
    clear hz ht hS hI
    go_wp2_with fail
    refine (HS.out _).mono ?_
    rintro e w2 ⟨rfl, hb2⟩
    by_cases hv0 : 0 ≤ v
    · have hfin := Aside0.mk (show R = (z, t) by rw [HR.out, decide_eq_true hv0]; rfl)
      go_wp2_with fail
      refine (HI.out _).mono ?_
      rintro e w3 ⟨rfl, rfl⟩
      go_wp2
      go_ret2
      exact ⟨by rw [hfin.out]; rfl, hb2⟩
    · have hfin := Aside0.mk (show R = (z, false) by rw [HR.out, decide_eq_false hv0]; rfl)
      go_wp2
      go_ret2
      exact ⟨by rw [hfin.out]; rfl, hb2⟩
theorem l3One_calls {ok : Nat → Prop} (s : ByteArray) (A : Option Addr) (c : Nat) (l : List Dcl) (w : World) (hr : Row Kd.dcl w ok A l) (hs : s.size ≤ 1000000000) :
    Calls Tryz.prog 125 #[.string s, .slice A l.length c] w fun e w' => e = .returned (.tuple #[.string (standsV s l).1, .bool (standsV s l).2]) ∧ Below w.heap.size w w' := by
  by_cases h : 1 < s.size ∧ bt s 0 = 35
  · exact l3One_number s A l.length c l w hs h.1 h.2
  · exact l3One_named s A c l w hr hs h
end Go.Proofs.YtmfkdgdamepbcaaGreatDoor
