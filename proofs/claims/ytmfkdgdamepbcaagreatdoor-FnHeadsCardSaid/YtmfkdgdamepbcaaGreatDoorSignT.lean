/- SignText of both. -/
import Derived.Test.YtmfkdgdamepbcaaGreatDoorScan
import Derived.Laws.BytesArg
namespace Go.Proofs.YtmfkdgdamepbcaaGreatDoor
open Go.RowKit Go.Lib
set_option linter.unusedVariables false
set_option linter.unusedSimpArgs false
set_option maxHeartbeats 4000000
set_option maxRecDepth 100000
def signB (n : Int) : ByteArray := if 0 ≤ n ∧ n ≤ 1114111 ∧ ¬ (55296 ≤ n ∧ n ≤ 57343) then Utf8.encode n else ⟨#[]⟩
theorem implSignText_calls (n : Int) (w : World) : Calls Tryz.prog 167 #[.int .i64 n] w fun e w' => e = .returned (.string (signB n)) ∧ w = w' := by
  have HA := Aside0.mk (fun W => in_calls n 0 1114111 W)
  have HB := Aside0.mk (fun W => in_calls n 55296 57343 W)
  by_cases c1 : 0 ≤ n ∧ n ≤ 1114111
  case neg =>
    have hfin := Aside0.mk (show signB n = ⟨#[]⟩ by unfold signB; rw [if_neg (fun h => c1 ⟨h.1, h.2.1⟩)])
    rw [show (decide ((0 : Int) ≤ n) && decide (n ≤ 1114111)) = false by simp only [Bool.and_eq_false_iff, decide_eq_false_iff_not]; omega] at HA
    clear c1
    go_enter Tryz.func167, Tryz.ntmps167
    go_wp2_with fail
    refine (HA.out _).mono ?_
    rintro e w1 ⟨rfl, rfl⟩
    go_wp2
    go_ret
    exact ⟨by rw [hfin.out]; rfl, rfl⟩
  rw [show (decide ((0 : Int) ≤ n) && decide (n ≤ 1114111)) = true by simp only [Bool.and_eq_true, decide_eq_true_eq]; omega] at HA
  by_cases c2 : 55296 ≤ n ∧ n ≤ 57343
  · have hfin := Aside0.mk (show signB n = ⟨#[]⟩ by unfold signB; rw [if_neg (fun h => h.2.2 c2)])
    rw [show (decide ((55296 : Int) ≤ n) && decide (n ≤ 57343)) = true by simp only [Bool.and_eq_true, decide_eq_true_eq]; omega] at HB
    go_enter Tryz.func167, Tryz.ntmps167
    go_wp2_with fail
    refine (HA.out _).mono ?_
    rintro e w1 ⟨rfl, rfl⟩
    go_wp2_with fail
    refine (HB.out _).mono ?_
    rintro e w1 ⟨rfl, rfl⟩
    go_wp2
    go_ret
    exact ⟨by rw [hfin.out]; rfl, rfl⟩
  · have hfin := Aside0.mk (show signB n = Utf8.encode n by unfold signB; rw [if_pos ⟨c1.1, c1.2, c2⟩])
    rw [show (decide ((55296 : Int) ≤ n) && decide (n ≤ 57343)) = false by simp only [Bool.and_eq_false_iff, decide_eq_false_iff_not]; omega] at HB
    obtain ⟨c3, c4⟩ := c1
    have i1 : IntKind.i32.wrap n = n := by rw [IntKind.wrap_i32]; omega
    go_enter Tryz.func167, Tryz.ntmps167
    go_wp2_with fail
    refine (HA.out _).mono ?_
    rintro e w1 ⟨rfl, rfl⟩
    go_wp2_with fail
    refine (HB.out _).mono ?_
    rintro e w1 ⟨rfl, rfl⟩
    go_wp2
    go_ret
    exact ⟨by rw [hfin.out]; rfl, rfl⟩
theorem conv_bytes (W : World) (us : List Int) (cells : Array Value) (hc : cells = (us.map (Value.int .u8)).toArray) (n : Nat) (hn : n = us.length) : (convert 22 9 (.slice (some ⟨W.heap.size, 0, none⟩) n n)).run Tryz.prog (W.alloc (.cells cells 5)) = .ok (.string (strOfNums us)) (W.alloc (.cells cells 5)) := by
  subst hc hn
  refine run_convert_bytes_arg (P := Tryz.prog) _ 22 5 Tryz.underlying22 Tryz.underlying5 W.heap.size 0 us.length us.length us rfl ?_ 9 Tryz.underlying9
  intro i hi
  have hg : (W.alloc (.cells (us.map (Value.int .u8)).toArray 5 (0, 0))).heap[W.heap.size]? = some (.cells (us.map (Value.int .u8)).toArray 5 (0, 0)) := Array.getElem?_push_size
  rw [Nat.zero_add, cell_of_row _ _ _ _ _ _ hg]
  simp [hi]
theorem ofInt_T (a : Nat) (ha : a < 18446744073709551616) : (BitVec.ofInt 64 (a : Int)).toNat = a := by
  rw [BitVec.ofInt_natCast, BitVec.toNat_ofNat]; exact Nat.mod_eq_of_lt (by omega)
theorem and63 (a : Nat) (ha : a < 2097152) : bits .and .i64 (a : Int) 63 = ((a % 64 : Nat) : Int) := by
  show IntKind.i64.wrap ((BitVec.ofInt 64 (a : Int) &&& BitVec.ofInt 64 ((63 : Nat) : Int)).toNat : Int) = _
  rw [BitVec.toNat_and, ofInt_T a (by omega), ofInt_T 63 (by omega), show (63 : Nat) = 2 ^ 6 - 1 from rfl, Nat.and_two_pow_sub_one_eq_mod, IntKind.wrap_i64]
  omega
theorem enc_valid (m : Nat) (h : m ≤ 1114111) (h2 : ¬ (55296 ≤ (m : Int) ∧ (m : Int) ≤ 57343)) : Utf8.encode (m : Int) =
    if m < 128 then ⟨#[UInt8.ofNat m]⟩ else if m < 2048 then ⟨#[UInt8.ofNat (192 + m / 64), UInt8.ofNat (128 + m % 64)]⟩
    else if m < 65536 then ⟨#[UInt8.ofNat (224 + m / 4096), UInt8.ofNat (128 + m / 64 % 64), UInt8.ofNat (128 + m % 64)]⟩
    else ⟨#[UInt8.ofNat (240 + m / 262144), UInt8.ofNat (128 + m / 4096 % 64), UInt8.ofNat (128 + m / 64 % 64), UInt8.ofNat (128 + m % 64)]⟩ := by
  have hv : Utf8.valid (m : Int) = true := by
    unfold Utf8.valid
    simp only [Bool.or_eq_true, Bool.and_eq_true, decide_eq_true_eq]
    omega
  unfold Utf8.encode
  simp only [hv, if_true, Int.toNat_natCast]
end Go.Proofs.YtmfkdgdamepbcaaGreatDoor
