/- strconv.ParseInt of few digits to 10 and to 16; numbered. -/
import Derived.Test.YtmfkdgdamepbcaaGreatDoorDig
import Derived.Test.YtmfkdgdamepbcaaGreatDoorSignT
import Derived.Lib.ConvBytes
namespace Go.Proofs.YtmfkdgdamepbcaaGreatDoor
open Go.RowKit Go.Lib
set_option linter.unusedVariables false
set_option linter.unusedSimpArgs false
set_option maxHeartbeats 4000000
set_option maxRecDepth 100000
theorem below_bytes2 (w : World) (e : TypeId) (s : ByteArray) : Below w.heap.size w (Lib.bytesWorld w e s) :=
  ⟨rfl, rfl, rfl, by rw [Lib.bytesWorld_size]; omega, fun k hk => Lib.bytesWorld_at_old w e s k hk⟩
theorem lower_calls (x y : Int) (h : bits .or .u8 x 32 = y) (w : World) :
    Calls Tryz.prog 175 #[.int .u8 x] w fun e w' => e = .returned (.int .u8 y) ∧ w = w' := by
  subst h
  go_enter Tryz.func175, Tryz.ntmps175
  go_wp2
  go_ret
  exact ⟨rfl, rfl⟩
theorem low_small (x : Nat) (h1 : 97 ≤ x) (h2 : x ≤ 102) : bits .or .u8 (x : Int) 32 = ((x : Nat) : Int) := by
  obtain rfl | rfl | rfl | rfl | rfl | rfl : x = 97 ∨ x = 98 ∨ x = 99 ∨ x = 100 ∨ x = 101 ∨ x = 102 := by omega
  all_goals decide
theorem low_great (x : Nat) (h1 : 65 ≤ x) (h2 : x ≤ 70) : bits .or .u8 (x : Int) 32 = ((x + 32 : Nat) : Int) := by
  obtain rfl | rfl | rfl | rfl | rfl | rfl : x = 65 ∨ x = 66 ∨ x = 67 ∨ x = 68 ∨ x = 69 ∨ x = 70 := by omega
  all_goals decide
theorem digs_go {s : ByteArray} {base : Int} {j : Nat} (h : j < s.size) (hd : s.data.toList.all (digOk base) = true) (n : Int) :
    0 ≤ digVal (s[j]'h).toNat ∧ digVal (s[j]'h).toNat < base ∧ numGo base (s.data.toList.drop j) n = numGo base (s.data.toList.drop (j + 1)) (n * base + digVal (s[j]'h).toNat) := by
  have h' : j < s.data.toList.length := by rw [str_size]; exact h
  have e := str_get s j h
  rw [List.getElem?_eq_getElem h'] at e
  injection e with e
  have hm := List.all_eq_true.1 hd _ (List.getElem_mem h')
  rw [e, digOk, Bool.and_eq_true, decide_eq_true_eq, decide_eq_true_eq] at hm
  exact ⟨hm.1, hm.2, by rw [numGo_at s base n j h, if_neg (by omega)]⟩
theorem ParseUint10_calls (s : ByteArray) (w : World) (h1 : 1 ≤ s.size) (h7 : s.size ≤ 7) (hd : s.data.toList.all (digOk 10) = true) :
    Calls Tryz.prog 170 #[.string s, .int .i64 10, .int .i64 64] w fun e w' => ∃ n : Nat, e = .returned (.tuple #[.int .u64 n, .nilIface]) ∧ numGo 10 s.data.toList 0 = some (n : Int) ∧ n < 268435456 ∧ Below w.heap.size w w' := by
  have hs0 : ¬ s = ⟨#[]⟩ := by rintro rfl; exact absurd h1 (by decide)
  have n1 := str_ne0 hs0
  have n2 := str_neE hs0
  have HD := Aside0.mk hd
  clear hd hs0
  have hmv : IntKind.u64.wrap (IntKind.u64.wrap 18446744073709551616 - 1) = 18446744073709551615 := by decide
  go_enter Tryz.func170, Tryz.ntmps170
  go_upto_region 35 with fail
  have hcv := @Lib.run_convert_string_bytes Tryz.prog w 9 22 5 s _ Tryz.underlying9 Tryz.underlying22 Tryz.underlying5
  have hwbc := Aside0.mk (Lib.bytesWorld_cell w 5 s)
  have hwbb := Aside0.mk (below_bytes2 w 5 s)
  have hwbs := Aside0.mk (Lib.bytesWorld_size w 5 s)
  go_wp2
  generalize Lib.bytesWorld w 5 s = wb at hwbc hwbb hwbs ⊢
  generalize grownCap w s.size 0 5 = cb
  clear hcv
  go_loopg [12, 13, 101] s.size (fun k z a i wr => ∃ (n : Int) (j : Nat), z = .bool false ∧ a = .int .u64 n ∧ i = .int .i64 j ∧ j + k = s.size ∧ 0 ≤ n ∧ Aside (n.toNat < 16 ^ j) ∧ Aside (numGo 10 s.data.toList 0 = numGo 10 (s.data.toList.drop j) n) ∧ wr = wb)
  case atStart => exact ⟨0, 0, rfl, rfl, rfl, by omega, by omega, (by decide : (0 : Int).toNat < 16 ^ 0), (by rw [List.drop_zero] : numGo 10 s.data.toList 0 = numGo 10 (s.data.toList.drop 0) 0), rfl⟩
  case round =>
    obtain ⟨n, j, rfl, rfl, rfl, hk, hn0, hn, ha, rfl⟩ := hrel
    by_cases hlt : j < s.size
    · have hc := hwbc.out j hlt
      have hge : s.data.toList.getD j 0 = s[j]'hlt := by
        have e := str_get s j hlt
        rw [List.getD_eq_getElem?_getD, e]; rfl
      rw [hge] at hc
      obtain ⟨hv0, hv1, hst⟩ := digs_go hlt HD.out n
      obtain ⟨x, hx⟩ : ∃ x : Nat, (s[j]'hlt).toNat = x := ⟨_, rfl⟩
      have hx256 : x < 256 := by rw [← hx]; exact UInt8.toNat_lt _
      rw [hx] at hc hv0 hv1 hst
      have hp : n < 16777216 := by
        have h6 : (16 : Nat) ^ j ≤ 16 ^ 6 := Nat.pow_le_pow_right (by omega) (by omega)
        have := hn.out
        omega
      have hp2 : (16 : Nat) ^ (j + 1) = 16 ^ j * 16 := Nat.pow_succ 16 j
      have hx1 : ((x : Int) == 95) = false := by
        have := hv0
        have hw := hv1
        unfold digVal at this hw
        simp
        omega
      clear hge hx
      have Hv0 := Aside0.mk hv0
      have Hv1 := Aside0.mk hv1
      have Hst := Aside0.mk hst
      have Hp2 := Aside0.mk hp2
      clear hv0 hv1 hst hp2
      have c1 : 48 ≤ x ∧ x ≤ 57 := by
        have a := Hv0.out
        have b := Hv1.out
        unfold digVal at a b
        omega
      have hdv : digVal x = (x : Int) - 48 := by unfold digVal; rw [if_pos c1]
      obtain ⟨c2, c3⟩ := c1
      have hn2 := Aside0.mk (show (n * 10 + ((x : Int) - 48)).toNat < 16 ^ (j + 1) by rw [Hp2.out]; have := hn.out; omega)
      have hnx := Aside0.mk (show numGo 10 s.data.toList 0 = numGo 10 (s.data.toList.drop (j + 1)) (n * 10 + ((x : Int) - 48)) by rw [ha.out, Hst.out, hdv])
      have icut : n < 1844674407370955162 := by omega
      have iov : n * 10 + ((x : Int) - 48) < 18446744073709551616 := by omega
      clear ha hn hdv Hv0 Hv1 Hst Hp2
      go_wp2
      go_roundg (gk - 1)
      case measure => omega
      case rel => exact ⟨n * 10 + ((x : Int) - 48), j + 1, rfl, by go_num, by go_num, by omega, by omega, hn2.out, hnx.out, rfl⟩
    · have hfin := Aside0.mk (show numGo 10 s.data.toList 0 = some (n.toNat : Int) by rw [ha.out, List.drop_eq_nil_of_le (by rw [str_size]; omega), Int.toNat_of_nonneg hn0]; rfl)
      have hp := Aside0.mk (show n.toNat < 268435456 by
        have h6 : (16 : Nat) ^ j ≤ 16 ^ 7 := Nat.pow_le_pow_right (by omega) (by omega)
        have := hn.out
        omega)
      have hnn := Aside0.mk (show n = (n.toNat : Int) by omega)
      clear ha hn
      go_wp2
      go_ret2
      exact ⟨n.toNat, by rw [← hnn.out]; rfl, hfin.out, hp.out, hwbb.out⟩
theorem ParseUint16_calls (s : ByteArray) (w : World) (h1 : 1 ≤ s.size) (h7 : s.size ≤ 7) (hd : s.data.toList.all (digOk 16) = true) :
    Calls Tryz.prog 170 #[.string s, .int .i64 16, .int .i64 64] w fun e w' => ∃ n : Nat, e = .returned (.tuple #[.int .u64 n, .nilIface]) ∧ numGo 16 s.data.toList 0 = some (n : Int) ∧ n < 268435456 ∧ Below w.heap.size w w' := by
  have hs0 : ¬ s = ⟨#[]⟩ := by rintro rfl; exact absurd h1 (by decide)
  have n1 := str_ne0 hs0
  have n2 := str_neE hs0
  have HD := Aside0.mk hd
  clear hd hs0
  have hmv : IntKind.u64.wrap (IntKind.u64.wrap 18446744073709551616 - 1) = 18446744073709551615 := by decide
  go_enter Tryz.func170, Tryz.ntmps170
  go_upto_region 35 with fail
  have hcv := @Lib.run_convert_string_bytes Tryz.prog w 9 22 5 s _ Tryz.underlying9 Tryz.underlying22 Tryz.underlying5
  have hwbc := Aside0.mk (Lib.bytesWorld_cell w 5 s)
  have hwbb := Aside0.mk (below_bytes2 w 5 s)
  have hwbs := Aside0.mk (Lib.bytesWorld_size w 5 s)
  go_wp2
  generalize Lib.bytesWorld w 5 s = wb at hwbc hwbb hwbs ⊢
  generalize grownCap w s.size 0 5 = cb
  clear hcv
  go_loopg [12, 13, 101] s.size (fun k z a i wr => ∃ (n : Int) (j : Nat), z = .bool false ∧ a = .int .u64 n ∧ i = .int .i64 j ∧ j + k = s.size ∧ 0 ≤ n ∧ Aside (n.toNat < 16 ^ j) ∧ Aside (numGo 16 s.data.toList 0 = numGo 16 (s.data.toList.drop j) n) ∧ wr = wb)
  case atStart => exact ⟨0, 0, rfl, rfl, rfl, by omega, by omega, (by decide : (0 : Int).toNat < 16 ^ 0), (by rw [List.drop_zero] : numGo 16 s.data.toList 0 = numGo 16 (s.data.toList.drop 0) 0), rfl⟩
  case round =>
    obtain ⟨n, j, rfl, rfl, rfl, hk, hn0, hn, ha, rfl⟩ := hrel
    by_cases hlt : j < s.size
    · have hc := hwbc.out j hlt
      have hge : s.data.toList.getD j 0 = s[j]'hlt := by
        have e := str_get s j hlt
        rw [List.getD_eq_getElem?_getD, e]; rfl
      rw [hge] at hc
      obtain ⟨hv0, hv1, hst⟩ := digs_go hlt HD.out n
      obtain ⟨x, hx⟩ : ∃ x : Nat, (s[j]'hlt).toNat = x := ⟨_, rfl⟩
      have hx256 : x < 256 := by rw [← hx]; exact UInt8.toNat_lt _
      rw [hx] at hc hv0 hv1 hst
      have hp : n < 16777216 := by
        have h6 : (16 : Nat) ^ j ≤ 16 ^ 6 := Nat.pow_le_pow_right (by omega) (by omega)
        have := hn.out
        omega
      have hp2 : (16 : Nat) ^ (j + 1) = 16 ^ j * 16 := Nat.pow_succ 16 j
      have hx1 : ((x : Int) == 95) = false := by
        have := hv0
        have hw := hv1
        unfold digVal at this hw
        simp
        omega
      clear hge hx
      have Hv0 := Aside0.mk hv0
      have Hv1 := Aside0.mk hv1
      have Hst := Aside0.mk hst
      have Hp2 := Aside0.mk hp2
      clear hv0 hv1 hst hp2
      by_cases c1 : 48 ≤ x ∧ x ≤ 57
      · have hdv : digVal x = (x : Int) - 48 := by unfold digVal; rw [if_pos c1]
        obtain ⟨c2, c3⟩ := c1
        have hn2 := Aside0.mk (show (n * 16 + ((x : Int) - 48)).toNat < 16 ^ (j + 1) by rw [Hp2.out]; have := hn.out; omega)
        have hnx := Aside0.mk (show numGo 16 s.data.toList 0 = numGo 16 (s.data.toList.drop (j + 1)) (n * 16 + ((x : Int) - 48)) by rw [ha.out, Hst.out, hdv])
        have icut : n < 1152921504606846976 := by omega
        have iov : n * 16 + ((x : Int) - 48) < 18446744073709551616 := by omega
        clear ha hn hdv Hv0 Hv1 Hst Hp2
        go_wp2
        go_roundg (gk - 1)
        case measure => omega
        case rel => exact ⟨n * 16 + ((x : Int) - 48), j + 1, rfl, by go_num, by go_num, by omega, by omega, hn2.out, hnx.out, rfl⟩
      by_cases c4 : 97 ≤ x ∧ x ≤ 102
      · have hdv : digVal x = (x : Int) - 97 + 10 := by unfold digVal; rw [if_neg c1, if_pos c4]
        obtain ⟨c5, c6⟩ := c4
        have HL := Aside0.mk (fun W => lower_calls (x : Int) _ (low_small x c5 c6) W)
        have c7 : ¬ x ≤ 57 := by omega
        clear c1
        have hn2 := Aside0.mk (show (n * 16 + ((x : Int) - 97 + 10)).toNat < 16 ^ (j + 1) by rw [Hp2.out]; have := hn.out; omega)
        have hnx := Aside0.mk (show numGo 16 s.data.toList 0 = numGo 16 (s.data.toList.drop (j + 1)) (n * 16 + ((x : Int) - 97 + 10)) by rw [ha.out, Hst.out, hdv])
        have icut : n < 1152921504606846976 := by omega
        have iov : n * 16 + ((x : Int) - 97 + 10) < 18446744073709551616 := by omega
        clear ha hn hdv Hv0 Hv1 Hst Hp2
        go_wp2_with (go_at_call 175; refine (HL.out _).mono ?_; rintro e w1 ⟨rfl, rfl⟩)
        go_roundg (gk - 1)
        case measure => omega
        case rel => exact ⟨n * 16 + ((x : Int) - 97 + 10), j + 1, rfl, by go_num, by go_num, by omega, by omega, hn2.out, hnx.out, rfl⟩
      have c5 : 65 ≤ x ∧ x ≤ 70 := by
        have a := Hv0.out
        have b := Hv1.out
        unfold digVal at a b
        omega
      have hdv : digVal x = (x : Int) - 65 + 10 := by unfold digVal; rw [if_neg c1, if_neg c4, if_pos c5]
      obtain ⟨c6, c7⟩ := c5
      have HL := Aside0.mk (fun W => lower_calls (x : Int) _ (low_great x c6 c7) W)
      have c8 : ¬ x ≤ 57 := by omega
      clear c1 c4
      have hn2 := Aside0.mk (show (n * 16 + ((x : Int) - 65 + 10)).toNat < 16 ^ (j + 1) by rw [Hp2.out]; have := hn.out; omega)
      have hnx := Aside0.mk (show numGo 16 s.data.toList 0 = numGo 16 (s.data.toList.drop (j + 1)) (n * 16 + ((x : Int) - 65 + 10)) by rw [ha.out, Hst.out, hdv])
      have icut : n < 1152921504606846976 := by omega
      have iov : n * 16 + ((x : Int) - 65 + 10) < 18446744073709551616 := by omega
      clear ha hn hdv Hv0 Hv1 Hst Hp2
      go_wp2_with (go_at_call 175; refine (HL.out _).mono ?_; rintro e w1 ⟨rfl, rfl⟩)
      go_roundg (gk - 1)
      case measure => omega
      case rel => exact ⟨n * 16 + ((x : Int) - 65 + 10), j + 1, rfl, by go_num, by go_num, by omega, by omega, hn2.out, hnx.out, rfl⟩
    · have hfin := Aside0.mk (show numGo 16 s.data.toList 0 = some (n.toNat : Int) by rw [ha.out, List.drop_eq_nil_of_le (by rw [str_size]; omega), Int.toNat_of_nonneg hn0]; rfl)
      have hp := Aside0.mk (show n.toNat < 268435456 by
        have h6 : (16 : Nat) ^ j ≤ 16 ^ 7 := Nat.pow_le_pow_right (by omega) (by omega)
        have := hn.out
        omega)
      have hnn := Aside0.mk (show n = (n.toNat : Int) by omega)
      clear ha hn
      go_wp2
      go_ret2
      exact ⟨n.toNat, by rw [← hnn.out]; rfl, hfin.out, hp.out, hwbb.out⟩
end Go.Proofs.YtmfkdgdamepbcaaGreatDoor
