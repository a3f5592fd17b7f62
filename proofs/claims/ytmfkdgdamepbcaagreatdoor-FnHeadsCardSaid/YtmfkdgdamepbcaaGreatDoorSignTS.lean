/- The reference's SignText (draft: the arms of three and four bytes do not build yet: 'maximum recursion depth' in the walk). -/
import Derived.Test.YtmfkdgdamepbcaaGreatDoorSignT
namespace Go.Proofs.YtmfkdgdamepbcaaGreatDoor
open Go.RowKit Go.Lib
set_option linter.unusedVariables false
set_option linter.unusedSimpArgs false
set_option maxHeartbeats 4000000
set_option maxRecDepth 100000
theorem shr6 (m a : Nat) (h : a = m / 64) : Op.shift .shr .i64 (m : Int) .u64 6 = pure (Value.int .i64 (a : Int)) := by
  rw [shift_shr_any .i64 .u64 (m : Int) 6 (by decide), show (a : Int) = (m : Int) / 64 by omega]; rfl
theorem shr12 (m a : Nat) (h : a = m / 4096) : Op.shift .shr .i64 (m : Int) .u64 12 = pure (Value.int .i64 (a : Int)) := by
  rw [shift_shr_any .i64 .u64 (m : Int) 12 (by decide), show (a : Int) = (m : Int) / 4096 by omega]; rfl
theorem shr18 (m a : Nat) (h : a = m / 262144) : Op.shift .shr .i64 (m : Int) .u64 18 = pure (Value.int .i64 (a : Int)) := by
  rw [shift_shr_any .i64 .u64 (m : Int) 18 (by decide), show (a : Int) = (m : Int) / 262144 by omega]; rfl
theorem specSignText_calls (n : Int) (w : World) : Calls Tryz.prog 144 #[.int .i64 n] w fun e w' => e = .returned (.string (signB n)) ∧ Below w.heap.size w w' := by
  have HB := Aside0.mk (fun W => l1In_calls n 55296 57343 W)
  by_cases c1 : 0 ≤ n ∧ n ≤ 1114111
  case neg =>
    have hfin := Aside0.mk (show signB n = ⟨#[]⟩ by unfold signB; rw [if_neg (fun h => c1 ⟨h.1, h.2.1⟩)])
    by_cases c2 : n < 0
    · go_enter Tryz.func144, Tryz.ntmps144
      go_wp2
      go_ret
      exact ⟨by rw [hfin.out]; rfl, Below.refl _ _⟩
    · have c3 : 1114111 < n := by omega
      clear c1
      go_enter Tryz.func144, Tryz.ntmps144
      go_wp2
      go_ret
      exact ⟨by rw [hfin.out]; rfl, Below.refl _ _⟩
  obtain ⟨c3, c4⟩ := c1
  by_cases c2 : 55296 ≤ n ∧ n ≤ 57343
  · have hfin := Aside0.mk (show signB n = ⟨#[]⟩ by unfold signB; rw [if_neg (fun h => h.2.2 c2)])
    rw [show (decide ((55296 : Int) ≤ n) && decide (n ≤ 57343)) = true by simp only [Bool.and_eq_true, decide_eq_true_eq]; omega] at HB
    go_enter Tryz.func144, Tryz.ntmps144
    go_wp2_with fail
    refine (HB.out _).mono ?_
    rintro e w1 ⟨rfl, rfl⟩
    go_wp2
    go_ret
    exact ⟨by rw [hfin.out]; rfl, Below.refl _ _⟩
  rw [show (decide ((55296 : Int) ≤ n) && decide (n ≤ 57343)) = false by simp only [Bool.and_eq_false_iff, decide_eq_false_iff_not]; omega] at HB
  have hsv := Aside0.mk (show signB n = Utf8.encode n by unfold signB; rw [if_pos ⟨c3, c4, c2⟩])
  obtain ⟨m, rfl⟩ : ∃ m : Nat, n = m := ⟨n.toNat, by omega⟩
  have hen := Aside0.mk (enc_valid m (by omega) c2)
  clear c2
  have hbl : ∀ o, Below w.heap.size w (w.alloc o) := fun o => below_alloc (Below.refl _ _) o
  have HBL := Aside0.mk hbl
  clear hbl
  by_cases d1 : m < 128
  · have hc := conv_bytes w [(m : Int)] _ rfl 1 rfl
    have hfin := Aside0.mk (show strOfNums [(m : Int)] = signB m by rw [hsv.out, hen.out, if_pos d1]; rfl)
    simp only [List.map_cons, List.map_nil] at hc
    go_enter Tryz.func144, Tryz.ntmps144
    go_wp2_with fail
    refine (HB.out _).mono ?_
    rintro e w1 ⟨rfl, rfl⟩
    go_wp2
    go_ret
    exact ⟨by rw [← hfin.out]; rfl, HBL.out _⟩
  obtain ⟨b, hb⟩ : ∃ b : Nat, b = m % 64 := ⟨_, rfl⟩
  have f1 : bits .and .i64 (m : Int) 63 = (b : Int) := by rw [and63 m (by omega), hb]
  have hb64 : b < 64 := by omega
  by_cases d2 : m < 2048
  · obtain ⟨a, ha⟩ : ∃ a : Nat, a = m / 64 := ⟨_, rfl⟩
    have e1 : (m : Int) / 64 = (a : Int) := by omega
    have ha32 : a < 32 := by omega
    have hc := conv_bytes w [192 + (a : Int), 128 + (b : Int)] _ rfl 2 rfl
    have hfin := Aside0.mk (show strOfNums [192 + (a : Int), 128 + (b : Int)] = signB m by
      rw [hsv.out, hen.out, if_neg d1, if_pos d2, ← ha, ← hb]
      simp only [strOfNums, List.map_cons, List.map_nil, show (192 + (a : Int)).toNat = 192 + a by omega, show (128 + (b : Int)).toNat = 128 + b by omega])
    simp only [List.map_cons, List.map_nil] at hc
    clear ha hb
    go_enter Tryz.func144, Tryz.ntmps144
    go_wp2_with fail
    refine (HB.out _).mono ?_
    rintro e w1 ⟨rfl, rfl⟩
    go_wp2
    go_ret
    exact ⟨by rw [← hfin.out]; rfl, HBL.out _⟩
  obtain ⟨a6, ha6⟩ : ∃ a : Nat, a = m / 64 := ⟨_, rfl⟩
  have s6 := shr6 m a6 ha6
  have h6 : a6 < 32768 := by omega
  obtain ⟨c, hcc⟩ : ∃ c : Nat, c = a6 % 64 := ⟨_, rfl⟩
  have f2 : bits .and .i64 (a6 : Int) 63 = (c : Int) := by rw [and63 a6 (by omega), hcc]
  have hc64 : c < 64 := by omega
  obtain ⟨a12, ha12⟩ : ∃ a : Nat, a = m / 4096 := ⟨_, rfl⟩
  have s12 := shr12 m a12 ha12
  by_cases d3 : m < 65536
  · have h12 : a12 < 16 := by omega
    have hc := conv_bytes w [224 + (a12 : Int), 128 + (c : Int), 128 + (b : Int)] _ rfl 3 rfl
    have hfin := Aside0.mk (show strOfNums [224 + (a12 : Int), 128 + (c : Int), 128 + (b : Int)] = signB m by
      rw [hsv.out, hen.out, if_neg d1, if_neg d2, if_pos d3, ← ha6, ← ha12, ← hb, ← hcc]
      simp only [strOfNums, List.map_cons, List.map_nil, show (224 + (a12 : Int)).toNat = 224 + a12 by omega, show (128 + (c : Int)).toNat = 128 + c by omega, show (128 + (b : Int)).toNat = 128 + b by omega])
    simp only [List.map_cons, List.map_nil] at hc
    have D3 := Aside0.mk (show (m : Int) < 65536 by omega)
    clear ha6 hb ha12 hcc d3
    go_enter Tryz.func144, Tryz.ntmps144
    go_wp2_with fail
    refine (HB.out _).mono ?_
    rintro e w1 ⟨rfl, rfl⟩
    go_upto_region 7 with fail
    clear d1 d2
    have k3 : decide ((m : Int) < 65536) = true := decide_eq_true (by have := D3.out; omega)
    go_upto_region 8 with fail
    clear k3
    go_wp2
    go_ret
    exact ⟨by rw [← hfin.out]; rfl, HBL.out _⟩
  have h12 : a12 < 512 := by omega
  obtain ⟨c2, hc2⟩ : ∃ c : Nat, c = a12 % 64 := ⟨_, rfl⟩
  have f3 : bits .and .i64 (a12 : Int) 63 = (c2 : Int) := by rw [and63 a12 (by omega), hc2]
  have hc264 : c2 < 64 := by omega
  obtain ⟨a18, ha18⟩ : ∃ a : Nat, a = m / 262144 := ⟨_, rfl⟩
  have s18 := shr18 m a18 ha18
  have h18 : a18 < 8 := by omega
  have hc := conv_bytes w [240 + (a18 : Int), 128 + (c2 : Int), 128 + (c : Int), 128 + (b : Int)] _ rfl 4 rfl
  have hfin := Aside0.mk (show strOfNums [240 + (a18 : Int), 128 + (c2 : Int), 128 + (c : Int), 128 + (b : Int)] = signB m by
    rw [hsv.out, hen.out, if_neg d1, if_neg d2, if_neg d3, ← ha6, ← ha12, ← ha18, ← hb, ← hcc, ← hc2]
    simp only [strOfNums, List.map_cons, List.map_nil, show (240 + (a18 : Int)).toNat = 240 + a18 by omega, show (128 + (c2 : Int)).toNat = 128 + c2 by omega, show (128 + (c : Int)).toNat = 128 + c by omega, show (128 + (b : Int)).toNat = 128 + b by omega])
  simp only [List.map_cons, List.map_nil] at hc
  have D3 := Aside0.mk (show ¬ (m : Int) < 65536 by omega)
  clear ha6 hb ha12 hcc ha18 hc2 d3
  go_enter Tryz.func144, Tryz.ntmps144
  go_wp2_with fail
  refine (HB.out _).mono ?_
  rintro e w1 ⟨rfl, rfl⟩
  go_upto_region 7 with fail
  clear d1 d2
  have k3 : decide ((m : Int) < 65536) = false := decide_eq_false (by have := D3.out; omega)
  go_upto_region 9 with fail
  clear k3
  go_wp2
  go_ret
  exact ⟨by rw [← hfin.out]; rfl, HBL.out _⟩
end Go.Proofs.YtmfkdgdamepbcaaGreatDoor
