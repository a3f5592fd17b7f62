/- What a name between & and ; stands for, in the program: ParseInt, numbered, CutPrefix, stands. -/
import Derived.Test.YtmfkdgdamepbcaaGreatDoorNumd
import Derived.Test.YtmfkdgdamepbcaaGreatDoorExp
import Derived.Test.YtmfkdgdamepbcaaGreatDoorEntsI
namespace Go.Proofs.YtmfkdgdamepbcaaGreatDoor
open Go.RowKit Go.Lib
set_option linter.unusedVariables false
set_option linter.unusedSimpArgs false
set_option maxHeartbeats 4000000
set_option maxRecDepth 100000
theorem ParseUintB_calls (B : Int) (hB : B = 10 ∨ B = 16) (s : ByteArray) (w : World) (h1 : 1 ≤ s.size) (h7 : s.size ≤ 7) (hd : s.data.toList.all (digOk B) = true) :
    Calls Tryz.prog 170 #[.string s, .int .i64 B, .int .i64 64] w fun e w' => ∃ n : Nat, e = .returned (.tuple #[.int .u64 n, .nilIface]) ∧ numGo B s.data.toList 0 = some (n : Int) ∧ n < 268435456 ∧ Below w.heap.size w w' := by
  rcases hB with rfl | rfl
  · exact ParseUint10_calls s w h1 h7 hd
  · exact ParseUint16_calls s w h1 h7 hd
theorem isDigitsB_calls (B : Int) (hB : B = 10 ∨ B = 16) (s : ByteArray) (most : Nat) (w : World) (hs : s.size ≤ 1000000000) (hm : most ≤ 7) :
    Calls Tryz.prog 165 #[.string s, .int .i64 B, .int .i64 (most : Int)] w fun e w' => e = .returned (.bool (digsOk s B most)) ∧ w = w' := by
  rcases hB with rfl | rfl
  · exact isDigits10_calls s most w hs hm
  · exact isDigits16_calls s most w hs hm
theorem iParseIntB_calls (B : Int) (hB : B = 10 ∨ B = 16) (s : ByteArray) (w : World) (h1 : 1 ≤ s.size) (h7 : s.size ≤ 7) (hd : s.data.toList.all (digOk B) = true) :
    Calls Tryz.prog 168 #[.string s, .int .i64 B, .int .i64 64] w fun e w' => ∃ n : Nat, e = .returned (.tuple #[.int .i64 n, .nilIface]) ∧ numGo B s.data.toList 0 = some (n : Int) ∧ n < 268435456 ∧ Below w.heap.size w w' := by
  have HP := Aside0.mk (ParseUintB_calls B hB s w h1 h7 hd)
  have hs0 : ¬ s = ⟨#[]⟩ := by rintro rfl; exact absurd h1 (by decide)
  have n1 := str_ne0 hs0
  have n2 := str_neE hs0
  obtain ⟨hv0, _, _⟩ := digs_go (show 0 < s.size by omega) hd 0
  obtain ⟨x, hx⟩ : ∃ x : Nat, (s[0]'(by omega)).toNat = x := ⟨_, rfl⟩
  rw [hx] at hv0
  have hx256 : x < 256 := by rw [← hx]; exact UInt8.toNat_lt _
  have hx1 : ((x : Int) == 43) = false := by
    have := hv0
    unfold digVal at this
    simp
    omega
  have hx2 : ((x : Int) == 45) = false := by
    have := hv0
    unfold digVal at this
    simp
    omega
  have h0 : 0 < s.size := by omega
  have hct : IntKind.u64.wrap (9223372036854775808 : Int) = 9223372036854775808 := by decide
  clear hv0 hd hs0 hB
  go_enter Tryz.func168, Tryz.ntmps168
  go_wp2_with fail
  refine (HP.out).mono ?_
  rintro e w1 ⟨n, rfl, hn, hl, hb1⟩
  have icut : (n : Int) < 9223372036854775808 := by omega
  obtain ⟨m, hm⟩ : ∃ m : Int, m = (n : Int) := ⟨_, rfl⟩
  rw [← hm] at icut ⊢
  have hm0 : 0 ≤ m := by omega
  have HM := Aside0.mk hm
  have HL := Aside0.mk hl
  clear hm hl
  go_wp2
  go_ret2
  exact ⟨n, by rw [HM.out]; rfl, hn, HL.out, hb1⟩
theorem ParseIntB_calls (B : Int) (hB : B = 10 ∨ B = 16) (s : ByteArray) (w : World) (h1 : 1 ≤ s.size) (h7 : s.size ≤ 7) (hd : s.data.toList.all (digOk B) = true) :
    Calls Tryz.prog 166 #[.string s, .int .i64 B, .int .i64 64] w fun e w' => ∃ n : Nat, e = .returned (.tuple #[.int .i64 n, .nilIface]) ∧ numGo B s.data.toList 0 = some (n : Int) ∧ n < 268435456 ∧ Below w.heap.size w w' := by
  have HP := Aside0.mk (iParseIntB_calls B hB s w h1 h7 hd)
  clear hd hB
  go_enter Tryz.func166, Tryz.ntmps166
  go_wp2_with fail
  refine (HP.out).mono ?_
  rintro e w1 ⟨n, rfl, hn, hl, hb1⟩
  go_wp2
  go_ret2
  exact ⟨n, rfl, hn, hl, hb1⟩
def numO (s : ByteArray) (base : Int) (most : Nat) : Option ByteArray := if 0 ≤ numB s base most ∧ isSign (numB s base most) = true then some (signB (numB s base most)) else none
theorem numB_bad {s : ByteArray} {base : Int} {most : Nat} (h : digsOk s base most = false) : numB s base most = -1 := by
  unfold numB
  split
  · rename_i hz
    rw [digsOk, decide_eq_true hz.1, decide_eq_true hz.2] at h
    simp only [Bool.and_true] at h
    have := numGo_some base s.data.toList 0
    rw [h] at this
    cases e : numGo base s.data.toList 0 with
    | none => rfl
    | some r => rw [e] at this; simp at this
  · rfl
theorem numbered_calls (B : Int) (hB : B = 10 ∨ B = 16) (s : ByteArray) (most : Nat) (w : World) (hs : s.size ≤ 1000000000) (hm : most ≤ 7) :
    Calls Tryz.prog 161 #[.string s, .int .i64 B, .int .i64 (most : Int)] w fun e w' => e = .returned (optV (numO s B most)) ∧ Below w.heap.size w w' := by
  have HD := Aside0.mk (isDigitsB_calls B hB s most w hs hm)
  obtain ⟨R, hR⟩ : ∃ R, R = numO s B most := ⟨_, rfl⟩
  rw [← hR]
  cases hq : digsOk s B most with
  | false =>
    have hfin := Aside0.mk (show optV R = .tuple #[.string ⟨#[]⟩, .bool false] by rw [hR, numO, numB_bad hq, if_neg (by omega)]; rfl)
    rw [hq] at HD
    clear hq hR hB
    go_enter Tryz.func161, Tryz.ntmps161
    go_wp2_with fail
    refine (HD.out).mono ?_
    rintro e w1 ⟨rfl, rfl⟩
    go_wp2
    go_ret2
    exact ⟨by rw [hfin.out]; rfl, Below.refl _ _⟩
  | true =>
    have hq2 := hq
    rw [digsOk, Bool.and_eq_true, Bool.and_eq_true, decide_eq_true_eq, decide_eq_true_eq] at hq2
    obtain ⟨hd, h1, h2⟩ := hq2
    have HP := Aside0.mk (ParseIntB_calls B hB s w h1 (by omega) hd)
    have HR := Aside0.mk (show ∀ n : Nat, numGo B s.data.toList 0 = some (n : Int) → R = if isSign (n : Int) = true then some (signB (n : Int)) else none from fun n hn => by
      have e : numB s B most = n := by rw [numB, if_pos ⟨h1, h2⟩, hn]; rfl
      rw [hR, numO, e]
      by_cases h : isSign (n : Int) = true
      · rw [if_pos ⟨by omega, h⟩, if_pos h]
      · rw [if_neg (fun x => h x.2), if_neg h])
    rw [hq] at HD
    clear hq hR hB hd
    go_enter Tryz.func161, Tryz.ntmps161
    go_wp2_with fail
    refine (HD.out).mono ?_
    rintro e w1 ⟨rfl, rfl⟩
    go_wp2_with fail
    refine (HP.out).mono ?_
    rintro e w1 ⟨n, rfl, hn, hl, hb1⟩
    have HN := Aside0.mk (HR.out n hn)
    clear hn
    have HI := Aside0.mk (fun W => implIsSign_calls (n : Int) W)
    have HS := Aside0.mk (fun W => implSignText_calls (n : Int) W)
    cases hi : isSign (n : Int) with
    | false =>
      have hfin := Aside0.mk (show optV R = .tuple #[.string ⟨#[]⟩, .bool false] by rw [HN.out, hi]; rfl)
      rw [hi] at HI
      clear hi
      go_wp2_with fail
      refine (HI.out _).mono ?_
      rintro e w2 ⟨rfl, hb2⟩
      go_wp2
      go_ret2
      exact ⟨by rw [hfin.out]; rfl, below_then hb1 hb2⟩
    | true =>
      have hfin := Aside0.mk (show optV R = .tuple #[.string (signB (n : Int)), .bool true] by rw [HN.out, hi, if_pos rfl]; rfl)
      rw [hi] at HI
      clear hi
      go_wp2_with fail
      refine (HI.out _).mono ?_
      rintro e w2 ⟨rfl, hb2⟩
      go_wp2_with fail
      refine (HS.out _).mono ?_
      rintro e w3 ⟨rfl, rfl⟩
      go_wp2
      go_ret2
      exact ⟨by rw [hfin.out]; rfl, below_then hb1 hb2⟩
/-! ### what stands ahead -/
theorem occ_len {s t : ByteArray} {a : Nat} (h : occAt s.data.toList t.data.toList a = true) : t.size ≤ s.size - a := by
  rw [occAt, List.isPrefixOf_iff_prefix] at h
  have := h.length_le
  rw [List.length_drop, str_size, str_size] at this
  exact this
theorem liteHasPrefix_calls (s p : ByteArray) (w : World) (hs : s.size ≤ 1000000000) (hp : p.size ≤ 1000000000) :
    Calls Tryz.prog 148 #[.string s, .string p] w fun e w' => e = .returned (.bool (occAt s.data.toList p.data.toList 0)) ∧ w = w' := by
  have ht := occ_test s p 0
  rw [Nat.zero_add] at ht
  obtain ⟨b, hb⟩ : ∃ b, b = occAt s.data.toList p.data.toList 0 := ⟨_, rfl⟩
  by_cases h : p.size ≤ s.size
  · rw [← hb] at ht ⊢
    have i1 : ¬ ((s.size : Int) < (p.size : Int)) := by omega
    have i2 : ((p.size : Int) ≤ (s.size : Int)) := by omega
    clear hb
    cases b with
    | false =>
      go_enter Tryz.func148, Tryz.ntmps148
      go_wp2
      go_ret
      exact ⟨rfl, rfl⟩
    | true =>
      go_enter Tryz.func148, Tryz.ntmps148
      go_wp2
      go_ret
      exact ⟨rfl, rfl⟩
  · have hb0 : occAt s.data.toList p.data.toList 0 = false := by
      cases e : occAt s.data.toList p.data.toList 0 with
      | false => rfl
      | true => have := occ_len e; omega
    rw [hb0]
    have i2 : ¬ ((p.size : Int) ≤ (s.size : Int)) := by omega
    clear hb hb0 ht
    go_enter Tryz.func148, Tryz.ntmps148
    go_wp2
    go_ret
    exact ⟨rfl, rfl⟩
def preV (s p : ByteArray) : Value := if occAt s.data.toList p.data.toList 0 = true then .tuple #[.string (s.extract p.size s.size), .bool true] else .tuple #[.string s, .bool false]
theorem CutPrefix_calls (s p : ByteArray) (w : World) (hs : s.size ≤ 1000000000) (hp : p.size ≤ 1000000000) :
    Calls Tryz.prog 160 #[.string s, .string p] w fun e w' => e = .returned (preV s p) ∧ w = w' := by
  have HL : Calls Tryz.prog 164 #[.string s, .string p] w fun e w' => e = .returned (preV s p) ∧ w = w' := by
    have HP := Aside0.mk (liteHasPrefix_calls s p w hs hp)
    cases e : occAt s.data.toList p.data.toList 0 with
    | true =>
      have hfin := Aside0.mk (show preV s p = .tuple #[.string (s.extract p.size s.size), .bool true] by rw [preV, if_pos e])
      have i1 : p.size ≤ s.size := occ_len e
      have i2 : ((p.size : Int) ≤ (s.size : Int)) := by omega
      rw [e] at HP
      clear e
      go_enter Tryz.func164, Tryz.ntmps164
      go_wp2_with fail
      refine (HP.out).mono ?_
      rintro e w1 ⟨rfl, rfl⟩
      go_wp2
      go_ret2
      exact ⟨by rw [hfin.out]; rfl, rfl⟩
    | false =>
      have hfin := Aside0.mk (show preV s p = .tuple #[.string s, .bool false] by rw [preV, e]; rfl)
      rw [e] at HP
      clear e
      go_enter Tryz.func164, Tryz.ntmps164
      go_wp2_with fail
      refine (HP.out).mono ?_
      rintro e w1 ⟨rfl, rfl⟩
      go_wp2
      go_ret2
      exact ⟨by rw [hfin.out]; rfl, rfl⟩
  have HL := Aside0.mk HL
  have hv : ∃ a b, preV s p = .tuple #[.string a, .bool b] := by unfold preV; split <;> exact ⟨_, _, rfl⟩
  obtain ⟨a, b, hv⟩ := hv
  rw [hv] at HL ⊢
  clear hv
  go_enter Tryz.func160, Tryz.ntmps160
  go_wp2_with fail
  refine (HL.out).mono ?_
  rintro e w1 ⟨rfl, rfl⟩
  go_wp2
  go_ret2
  exact ⟨rfl, rfl⟩
end Go.Proofs.YtmfkdgdamepbcaaGreatDoor
