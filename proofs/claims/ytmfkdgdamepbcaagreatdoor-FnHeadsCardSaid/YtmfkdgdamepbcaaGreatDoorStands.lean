/- stands of the program; strings.Cut, said by places. -/
import Derived.Test.YtmfkdgdamepbcaaGreatDoorStand
namespace Go.Proofs.YtmfkdgdamepbcaaGreatDoor
open Go.RowKit Go.Lib
set_option linter.unusedVariables false
set_option linter.unusedSimpArgs false
set_option maxHeartbeats 4000000
set_option maxRecDepth 100000
/-- What stands for it, if anything. -/
def standO (s : ByteArray) (l : List Dcl) : Option ByteArray := if (standsV s l).2 = true then some (standsV s l).1 else none
theorem known_at {s : ByteArray} (h : isKnown s = true) : ∃ i : Nat, i < 5 ∧ idxB (fun x => decide (s = x)) knownL = (i : Int) ∧ (⟨#[60, 62, 38, 39, 34]⟩ : ByteArray).extract i (i + 1) = knownV s := by
  simp only [isKnown, knownL, List.any_cons, List.any_nil, Bool.or_false, Bool.or_eq_true, decide_eq_true_eq] at h
  rcases h with rfl | rfl | rfl | rfl | rfl
  · exact ⟨0, by omega, idxB_hit _ knownL 0 (by decide) (by simp) (decide_eq_true rfl), by rw [knownV, if_pos rfl]; rfl⟩
  · exact ⟨1, by omega, idxB_hit _ knownL 1 (by decide) (by intro y hy; simp [knownL] at hy; subst hy; exact decide_eq_false (bytes_ne (by decide))) (decide_eq_true rfl), by rw [knownV, if_neg (bytes_ne (by decide)), if_pos rfl]; rfl⟩
  · exact ⟨2, by omega, idxB_hit _ knownL 2 (by decide) (by intro y hy; simp [knownL] at hy; rcases hy with rfl | rfl <;> exact decide_eq_false (bytes_ne (by decide))) (decide_eq_true rfl), by rw [knownV, if_neg (bytes_ne (by decide)), if_neg (bytes_ne (by decide)), if_pos rfl]; rfl⟩
  · exact ⟨3, by omega, idxB_hit _ knownL 3 (by decide) (by intro y hy; simp [knownL] at hy; rcases hy with rfl | rfl | rfl <;> exact decide_eq_false (bytes_ne (by decide))) (decide_eq_true rfl), by rw [knownV, if_neg (bytes_ne (by decide)), if_neg (bytes_ne (by decide)), if_neg (bytes_ne (by decide)), if_pos rfl]; rfl⟩
  · exact ⟨4, by omega, idxB_hit _ knownL 4 (by decide) (by intro y hy; simp [knownL] at hy; rcases hy with rfl | rfl | rfl | rfl <;> exact decide_eq_false (bytes_ne (by decide))) (decide_eq_true rfl), by rw [knownV, if_neg (bytes_ne (by decide)), if_neg (bytes_ne (by decide)), if_neg (bytes_ne (by decide)), if_neg (bytes_ne (by decide)), if_pos rfl]; rfl⟩
theorem known_nowhere {s : ByteArray} (h : isKnown s = false) : idxB (fun x => decide (s = x)) knownL = -1 :=
  idxB_miss _ _ (fun y hy => by
    rw [isKnown, List.any_eq_false] at h
    cases e : decide (s = y) with
    | false => rfl
    | true => exact absurd e (h y hy))
theorem ent_found {l : List Dcl} {s : ByteArray} {e : Dcl} (h : l.find? (fun e => decide (e.pre = s)) = some e) : ∃ (i : Nat) (hi : i < l.length), entIdx l s = (i : Int) ∧ l[i]'hi = e := by
  rw [List.find?_eq_some_iff_getElem] at h
  obtain ⟨hp, i, hi, he, hn⟩ := h
  refine ⟨i, hi, idxB_hit _ l i hi (fun y hy => ?_) (by rw [he]; exact hp), he⟩
  obtain ⟨k, hk, rfl⟩ := List.mem_take_iff_getElem.1 hy
  have := hn k (by omega)
  simpa using this
theorem ent_none {l : List Dcl} {s : ByteArray} (h : l.find? (fun e => decide (e.pre = s)) = none) : entIdx l s = -1 :=
  idxB_miss _ _ (fun y hy => by
    have := List.find?_eq_none.1 h y hy
    cases e : decide (y.pre = s) with
    | false => rfl
    | true => exact absurd e this)
theorem pre1_iff (s : ByteArray) : occAt s.data.toList [35] 0 = true ↔ 0 < s.size ∧ bt s 0 = 35 := by
  rw [occAt, List.drop_zero]
  constructor
  · intro h
    obtain ⟨t, ht⟩ := List.isPrefixOf_iff_prefix.1 h
    have hl : 0 < s.size := by rw [← str_size, ← ht]; simp
    refine ⟨hl, ?_⟩
    have e := str_get s 0 hl
    rw [← ht] at e
    simp at e
    rw [← bt_get s 0 hl, ← e]; rfl
  · rintro ⟨hl, hb⟩
    have e := str_get s 0 hl
    rw [← bt_get s 0 hl] at hb
    have hl2 : 0 < s.data.toList.length := by rw [str_size]; exact hl
    cases hd : s.data.toList with
    | nil => rw [hd] at hl2; simp at hl2
    | cons a r =>
      rw [hd] at e
      simp at e
      have ha : a = 35 := UInt8.toNat_inj.1 (by rw [e]; exact hb)
      subst ha
      simp
theorem pre2_iff (s : ByteArray) : occAt s.data.toList [35, 120] 0 = true ↔ 1 < s.size ∧ bt s 0 = 35 ∧ bt s 1 = 120 := by
  rw [occAt, List.drop_zero]
  constructor
  · intro h
    obtain ⟨t, ht⟩ := List.isPrefixOf_iff_prefix.1 h
    have hl : 1 < s.size := by rw [← str_size, ← ht]; simp
    have e0 := str_get s 0 (by omega)
    have e1 := str_get s 1 hl
    rw [← ht] at e0 e1
    simp at e0 e1
    exact ⟨hl, by rw [← bt_get s 0 (by omega), ← e0]; rfl, by rw [← bt_get s 1 hl, ← e1]; rfl⟩
  · rintro ⟨hl, hb0, hb1⟩
    have e0 := str_get s 0 (by omega)
    have e1 := str_get s 1 hl
    rw [← bt_get s 0 (by omega)] at hb0
    rw [← bt_get s 1 hl] at hb1
    have hl2 : 1 < s.data.toList.length := by rw [str_size]; exact hl
    cases hd : s.data.toList with
    | nil => rw [hd] at hl2; simp at hl2
    | cons a r =>
    cases r with
    | nil => rw [hd] at hl2; simp at hl2
    | cons b r =>
      rw [hd] at e0 e1
      simp at e0 e1
      have ha : a = 35 := UInt8.toNat_inj.1 (by rw [e0]; exact hb0)
      have hb : b = 120 := UInt8.toNat_inj.1 (by rw [e1]; exact hb1)
      subst ha
      subst hb
      simp
theorem plain_hash (s : ByteArray) (h : plainOk s = true) : ¬ (0 < s.size ∧ bt s 0 = 35) := by
  rintro ⟨h1, h2⟩
  rw [plainOk, Bool.and_eq_true] at h
  have e := sgn_lit s 0 h1 (by omega)
  rw [h2] at e
  have h3 := h.2
  rw [sgs_some e, show nameP 0 35 = false by decide] at h3
  simp at h3
theorem known_size {s : ByteArray} (h : isKnown s = true) : 2 ≤ s.size := by
  simp only [isKnown, knownL, List.any_cons, List.any_nil, Bool.or_false, Bool.or_eq_true, decide_eq_true_eq] at h
  rcases h with rfl | rfl | rfl | rfl | rfl <;> decide
theorem standO_hash {s : ByteArray} {l : List Dcl} (h1 : 1 < s.size) (h2 : bt s 0 = 35) : standO s l = if 0 ≤ hashN s ∧ isSign (hashN s) = true then some (signB (hashN s)) else none := by
  have e : standsV s l = (signB (hashN s), decide (0 ≤ hashN s) && isSign (hashN s)) := by rw [standsV, if_pos ⟨h1, h2⟩]
  rw [standO, e]
  simp only [Bool.and_eq_true, decide_eq_true_eq]
theorem stands_calls {ok : Nat → Prop} (s : ByteArray) (A : Option Addr) (c : Nat) (l : List Dcl) (w : World) (hr : Row Kd.dcl w ok A l) (hs : s.size ≤ 1000000000) (hl : ∀ e ∈ l, plainOk e.pre = true) :
    Calls Tryz.prog 153 #[.string s, .slice A l.length c] w fun e w' => e = .returned (optV (standO s l)) ∧ Below w.heap.size w w' := by
  obtain ⟨R, hR⟩ : ∃ R, R = standO s l := ⟨_, rfl⟩
  rw [← hR]
  have HR := Aside0.mk hR
  have hmax := hr.max
  have HA := Aside0.mk (fun W => CutPrefix_calls s ⟨#[35, 120]⟩ W hs (by decide))
  have HB := Aside0.mk (fun W => CutPrefix_calls s ⟨#[35]⟩ W hs (by decide))
  cases ha : occAt s.data.toList [35, 120] 0 with
  | true =>
    obtain ⟨h1, h2, h3⟩ := (pre2_iff s).1 ha
    have HN := Aside0.mk (fun W => numbered_calls 16 (.inr rfl) (s.extract 2 s.size) 6 W (by rw [ByteArray.size_extract]; omega) (by omega))
    rw [show numO (s.extract 2 s.size) 16 6 = R by rw [HR.out, standO_hash h1 h2, hashN, if_pos h3]; rfl] at HN
    rw [show preV s ⟨#[35, 120]⟩ = .tuple #[.string (s.extract 2 s.size), .bool true] by rw [preV, if_pos ha]; rfl] at HA
    clear hR ha hr h2 h3
    obtain ⟨x, hx⟩ : ∃ x, x = s.extract 2 s.size := ⟨_, rfl⟩
    rw [← hx] at HA HN
    clear hx
    rw [show ((6 : Nat) : Int) = 6 from rfl] at HN
    go_enter Tryz.func153, Tryz.ntmps153
    go_wp2_with fail
    refine (HA.out _).mono ?_
    rintro e w1 ⟨rfl, rfl⟩
    go_wp2_with fail
    refine (HN.out _).mono ?_
    rintro e w2 ⟨rfl, hb2⟩
    clear HR
    cases R with
    | none =>
      simp only [optV]
      go_wp2
      go_ret2
      exact ⟨rfl, hb2⟩
    | some r =>
      simp only [optV]
      go_wp2
      go_ret2
      exact ⟨rfl, hb2⟩
  | false =>
  rw [show preV s ⟨#[35, 120]⟩ = .tuple #[.string s, .bool false] by rw [preV, if_neg (by rw [show (⟨#[35, 120]⟩ : ByteArray).data.toList = [35, 120] from rfl, ha]; decide)]] at HA
  have h2 : ¬ (1 < s.size ∧ bt s 0 = 35 ∧ bt s 1 = 120) := fun h => by
    rw [(pre2_iff s).2 h] at ha
    cases ha
  clear ha
  cases hb : occAt s.data.toList [35] 0 with
  | true =>
    obtain ⟨h1, h3⟩ := (pre1_iff s).1 hb
    have HN := Aside0.mk (fun W => numbered_calls 10 (.inl rfl) (s.extract 1 s.size) 7 W (by rw [ByteArray.size_extract]; omega) (by omega))
    rw [show numO (s.extract 1 s.size) 10 7 = R by
      rw [HR.out]
      by_cases h4 : 1 < s.size
      · rw [standO_hash h4 h3, hashN, if_neg (fun e => h2 ⟨h4, h3, e⟩)]; rfl
      · have hk : isKnown s = false := by
          cases e : isKnown s with
          | false => rfl
          | true => have := known_size e; omega
        have hf : l.find? (fun e => decide (e.pre = s)) = none := List.find?_eq_none.2 (fun e he hp => by
          have hp : e.pre = s := by simpa using hp
          exact plain_hash e.pre (hl e he) (by rw [hp]; exact ⟨h1, h3⟩))
        rw [standO, standsV, if_neg (show ¬ (1 < s.size ∧ bt s 0 = 35) from fun e => h4 e.1), hk, hf, numO, numB, if_neg (by rw [ByteArray.size_extract]; omega)]
        rfl] at HN
    rw [show preV s ⟨#[35]⟩ = .tuple #[.string (s.extract 1 s.size), .bool true] by rw [preV, if_pos hb]; rfl] at HB
    clear hR hb hr h2 h3
    obtain ⟨x, hx⟩ : ∃ x, x = s.extract 1 s.size := ⟨_, rfl⟩
    rw [← hx] at HB HN
    clear hx
    rw [show ((7 : Nat) : Int) = 7 from rfl] at HN
    go_enter Tryz.func153, Tryz.ntmps153
    go_wp2_with fail
    refine (HA.out _).mono ?_
    rintro e w1 ⟨rfl, rfl⟩
    go_wp2_with fail
    refine (HB.out _).mono ?_
    rintro e w1 ⟨rfl, rfl⟩
    go_wp2_with fail
    refine (HN.out _).mono ?_
    rintro e w2 ⟨rfl, hb2⟩
    clear HR
    cases R with
    | none =>
      simp only [optV]
      go_wp2
      go_ret2
      exact ⟨rfl, hb2⟩
    | some r =>
      simp only [optV]
      go_wp2
      go_ret2
      exact ⟨rfl, hb2⟩
  | false =>
  rw [show preV s ⟨#[35]⟩ = .tuple #[.string s, .bool false] by rw [preV, if_neg (by rw [show (⟨#[35]⟩ : ByteArray).data.toList = [35] from rfl, hb]; decide)]] at HB
  have h3 : ¬ (1 < s.size ∧ bt s 0 = 35) := fun h => by
    rw [(pre1_iff s).2 ⟨by omega, h.2⟩] at hb
    cases hb
  clear hb h2
  cases hk : isKnown s with
  | true =>
    obtain ⟨i, hi, hx, hv⟩ := known_at hk
    have hv := Aside0.mk hv
    have hfin := Aside0.mk (show optV R = .tuple #[.string (knownV s), .bool true] by rw [HR.out, standO, standsV, if_neg h3, if_pos hk]; rfl)
    have HI := Aside0.mk (fun A W h => IndexStr_calls (ok := fun k => w.heap.size ≤ k) A knownL 5 s W h)
    rw [hx] at HI
    clear hR hr h3 hk hx HR
    go_enter Tryz.func153, Tryz.ntmps153
    go_wp2_with fail
    refine (HA.out _).mono ?_
    rintro e w1 ⟨rfl, rfl⟩
    go_wp2_with fail
    refine (HB.out _).mono ?_
    rintro e w1 ⟨rfl, rfl⟩
    go_wp2_with fail
    refine (ownNames_calls w).mono ?_
    rintro e w1 ⟨rfl, hrow, hb1⟩
    go_wp2_with fail
    refine (HI.out _ _ hrow).mono ?_
    rintro e w2 ⟨rfl, rfl⟩
    have i1 : IntKind.i64.wrap ((i : Int) + 1) = (i : Int) + 1 := by rw [IntKind.wrap_i64]; omega
    have i6 : (0 : Int) ≤ (i : Int) + 1 := by omega
    have i8 : ((i : Int) + 1).toNat = i + 1 := by omega
    go_wp2
    go_ret2
    exact ⟨by rw [hfin.out, ← hv.out]; rfl, hb1⟩
  | false =>
    have hx := known_nowhere hk
    have HI := Aside0.mk (fun A W h => IndexStr_calls (ok := fun k => w.heap.size ≤ k) A knownL 5 s W h)
    rw [hx] at HI
    cases hf : l.find? (fun e => decide (e.pre = s)) with
    | none =>
      have hfin := Aside0.mk (show optV R = .tuple #[.string ⟨#[]⟩, .bool false] by rw [HR.out, standO, standsV, if_neg h3, hk, hf]; rfl)
      have HE := Aside0.mk (fun W (hb : Below w.heap.size w W) => entAt_calls A c l s W (hr.below hb))
      rw [ent_none hf] at HE
      clear hR hr h3 hk hx HR hf
      go_enter Tryz.func153, Tryz.ntmps153
      go_wp2_with fail
      refine (HA.out _).mono ?_
      rintro e w1 ⟨rfl, rfl⟩
      go_wp2_with fail
      refine (HB.out _).mono ?_
      rintro e w1 ⟨rfl, rfl⟩
      go_wp2_with fail
      refine (ownNames_calls w).mono ?_
      rintro e w1 ⟨rfl, hrow, hb1⟩
      go_wp2_with fail
      refine (HI.out _ _ hrow).mono ?_
      rintro e w2 ⟨rfl, rfl⟩
      go_wp2_with fail
      refine (HE.out _ hb1).mono ?_
      rintro e w2 ⟨rfl, hb2⟩
      go_wp2
      go_ret2
      exact ⟨by rw [hfin.out]; rfl, below_then hb1 hb2⟩
    | some e =>
      obtain ⟨i, hi, hx2, he⟩ := ent_found hf
      have hfin := Aside0.mk (show optV R = .tuple #[.string e.uri, .bool true] by rw [HR.out, standO, standsV, if_neg h3, hk, hf]; rfl)
      have HE := Aside0.mk (fun W (hb : Below w.heap.size w W) => entAt_calls A c l s W (hr.below hb))
      have HD := Aside0.mk (fun W (hb : Below w.heap.size w W) => dcl_at (hr.below hb) i hi)
      rw [hx2] at HE
      rw [he] at HD
      clear hR hr h3 hk hx HR hf hx2 he
      go_enter Tryz.func153, Tryz.ntmps153
      go_wp2_with fail
      refine (HA.out _).mono ?_
      rintro e w1 ⟨rfl, rfl⟩
      go_wp2_with fail
      refine (HB.out _).mono ?_
      rintro e w1 ⟨rfl, rfl⟩
      go_wp2_with fail
      refine (ownNames_calls w).mono ?_
      rintro e w1 ⟨rfl, hrow, hb1⟩
      go_wp2_with fail
      refine (HI.out _ _ hrow).mono ?_
      rintro e w2 ⟨rfl, rfl⟩
      go_wp2_with fail
      refine (HE.out _ hb1).mono ?_
      rintro e w2 ⟨rfl, hb2⟩
      obtain ⟨b, o, rfl, hbl, d0, d1⟩ := HD.out _ (below_then hb1 hb2)
      go_wp2
      go_ret2
      exact ⟨by rw [hfin.out]; rfl, below_then hb1 hb2⟩
end Go.Proofs.YtmfkdgdamepbcaaGreatDoor
