/- Blanks of both; l6Is, l6To, l3Number of the reference. -/
import Derived.Test.YtmfkdgdamepbcaaGreatDoorEnts
import Derived.Test.YtmfkdgdamepbcaaGreatDoorHas
namespace Go.Proofs.YtmfkdgdamepbcaaGreatDoor
open Go.RowKit Go.Lib
set_option linter.unusedVariables false
set_option linter.unusedSimpArgs false
set_option maxHeartbeats 4000000
set_option maxRecDepth 20000
/-! ### blanks -/
def blk (s : ByteArray) : Nat → Nat → Nat
  | 0, k => k
  | f + 1, k => if k < s.size ∧ isBlank (bt s k : Nat) = true then blk s f (k + 1) else k
def blanksN (s : ByteArray) (k : Nat) : Nat := blk s (s.size - k) k
theorem blanksN_go {s : ByteArray} {k : Nat} (h : k < s.size) (hb : isBlank (bt s k : Nat) = true) : blanksN s k = blanksN s (k + 1) := by
  unfold blanksN
  rw [show s.size - k = (s.size - (k + 1)) + 1 by omega, blk, if_pos ⟨h, hb⟩]
theorem blanksN_stop {s : ByteArray} {k : Nat} (h : ¬ (k < s.size ∧ isBlank (bt s k : Nat) = true)) : blanksN s k = k := by
  unfold blanksN
  cases e : s.size - k with
  | zero => rfl
  | succ f => rw [blk, if_neg h]
theorem blk_le (s : ByteArray) : ∀ f k, k ≤ blk s f k ∧ blk s f k ≤ k + f
  | 0, k => by simp [blk]
  | f + 1, k => by
    have := blk_le s f (k + 1)
    rw [blk]
    split <;> omega
theorem blanksN_le (s : ByteArray) (k : Nat) : k ≤ blanksN s k ∧ (k ≤ s.size → blanksN s k ≤ s.size) := by
  have := blk_le s (s.size - k) k
  unfold blanksN
  omega
def blanksI (s : ByteArray) (a : Int) : Int := if a < 0 then a else (blanksN s a.toNat : Nat)
theorem specBlanks_calls (s : ByteArray) (a : Int) (w : World) (hs : s.size ≤ 1000000000) (ha : a ≤ 9223372036854775807) :
    Calls Tryz.prog 14 #[.string s, .int .i64 a] w fun e w' => e = .returned (.int .i64 (blanksI s a)) ∧ w = w' := by
  by_cases h0 : a < 0
  · have hfin := Aside0.mk (show blanksI s a = a by unfold blanksI; rw [if_pos h0])
    go_enter Tryz.func14, Tryz.ntmps14
    go_wp2
    go_loopg [5] 0 (fun g i wr => i = .int .i64 a ∧ w = wr)
    case atStart => exact ⟨rfl, rfl⟩
    case round =>
      obtain ⟨rfl, rfl⟩ := hrel
      go_wp2
      go_ret
      exact ⟨by rw [hfin.out]; rfl, rfl⟩
  obtain ⟨n, rfl⟩ : ∃ n : Nat, a = n := ⟨a.toNat, by omega⟩
  obtain ⟨R, hR⟩ : ∃ R, R = blanksN s n := ⟨_, rfl⟩
  have hRR := Aside0.mk (show blanksI s n = (R : Nat) by unfold blanksI; rw [if_neg (by omega), hR, Int.toNat_natCast])
  rw [hRR.out]
  have HR := Aside0.mk hR
  clear hR h0 hRR
  go_enter Tryz.func14, Tryz.ntmps14
  go_wp2
  go_loopg [5] (s.size - n) (fun g i wr => ∃ k : Nat, i = .int .i64 k ∧ g = s.size - k ∧ k ≤ 9223372036854775807 ∧ Aside (R = blanksN s k) ∧ w = wr)
  case atStart => exact ⟨n, rfl, rfl, by omega, HR.out, rfl⟩
  case round =>
    obtain ⟨k, rfl, hk, hk2, hR2, rfl⟩ := hrel
    by_cases hlt : k < s.size
    · obtain ⟨x, hx⟩ : ∃ x : Nat, (s[k]'hlt).toNat = x := ⟨_, rfl⟩
      have hx256 : x < 256 := by rw [← hx]; exact UInt8.toNat_lt _
      have hbx := Aside0.mk (show bt s k = x by rw [← hx, bt_get])
      cases hq : isBlank (x : Nat) with
      | true =>
        have hnx := Aside0.mk (hR2.out.trans (blanksN_go hlt (by rw [hbx.out]; exact hq)))
        have HI := Aside0.mk (fun W => specIsBlank_calls (x : Nat) W)
        rw [hq] at HI
        clear hq hR2
        go_wp2_with fail
        refine (HI.out _).mono ?_
        rintro e w1 ⟨rfl, rfl⟩
        go_wp2
        go_roundg (gk - 1)
        case measure => omega
        case rel => exact ⟨k + 1, by go_num, by omega, by omega, hnx.out, rfl⟩
      | false =>
        have hfin := Aside0.mk (hR2.out.trans (blanksN_stop (fun h => by rw [hbx.out, hq] at h; exact absurd h.2 (by decide))))
        have HI := Aside0.mk (fun W => specIsBlank_calls (x : Nat) W)
        rw [hq] at HI
        clear hq hR2
        go_wp2_with fail
        refine (HI.out _).mono ?_
        rintro e w1 ⟨rfl, rfl⟩
        go_wp2
        go_ret
        exact ⟨by rw [hfin.out]; rfl, rfl⟩
    · have hfin := Aside0.mk (hR2.out.trans (blanksN_stop (fun h => hlt h.1)))
      clear hR2
      go_wp2
      go_ret
      exact ⟨by rw [hfin.out]; rfl, rfl⟩
theorem implBlanks_calls (s : ByteArray) (a : Int) (w : World) (hs : s.size ≤ 1000000000) (ha : a ≤ 9223372036854775807) :
    Calls Tryz.prog 13 #[.string s, .int .i64 a] w fun e w' => e = .returned (.int .i64 (blanksI s a)) ∧ w = w' := by
  by_cases h0 : a < 0
  · have hfin := Aside0.mk (show blanksI s a = a by unfold blanksI; rw [if_pos h0])
    go_enter Tryz.func13, Tryz.ntmps13
    go_wp2
    go_ret
    exact ⟨by rw [hfin.out]; rfl, rfl⟩
  obtain ⟨n, rfl⟩ : ∃ n : Nat, a = n := ⟨a.toNat, by omega⟩
  obtain ⟨R, hR⟩ : ∃ R, R = blanksN s n := ⟨_, rfl⟩
  have hRR := Aside0.mk (show blanksI s n = (R : Nat) by unfold blanksI; rw [if_neg (by omega), hR, Int.toNat_natCast])
  rw [hRR.out]
  have HR := Aside0.mk hR
  clear hR h0 hRR
  go_enter Tryz.func13, Tryz.ntmps13
  go_wp2
  go_loopg [1] (s.size - n) (fun g i wr => ∃ k : Nat, i = .int .i64 k ∧ g = s.size - k ∧ k ≤ 9223372036854775807 ∧ Aside (R = blanksN s k) ∧ w = wr)
  case atStart => exact ⟨n, rfl, rfl, by omega, HR.out, rfl⟩
  case round =>
    obtain ⟨k, rfl, hk, hk2, hR2, rfl⟩ := hrel
    by_cases hlt : k < s.size
    · obtain ⟨x, hx⟩ : ∃ x : Nat, (s[k]'hlt).toNat = x := ⟨_, rfl⟩
      have hx256 : x < 256 := by rw [← hx]; exact UInt8.toNat_lt _
      have hbx := Aside0.mk (show bt s k = x by rw [← hx, bt_get])
      cases hq : isBlank (x : Nat) with
      | true =>
        have hnx := Aside0.mk (hR2.out.trans (blanksN_go hlt (by rw [hbx.out]; exact hq)))
        have HI := Aside0.mk (fun W => implIsBlank_calls (x : Nat) W)
        rw [hq] at HI
        clear hq hR2
        go_wp2_with fail
        refine (HI.out _).mono ?_
        rintro e w1 ⟨rfl, rfl⟩
        go_wp2
        go_roundg (gk - 1)
        case measure => omega
        case rel => exact ⟨k + 1, by go_num, by omega, by omega, hnx.out, rfl⟩
      | false =>
        have hfin := Aside0.mk (hR2.out.trans (blanksN_stop (fun h => by rw [hbx.out, hq] at h; exact absurd h.2 (by decide))))
        have HI := Aside0.mk (fun W => implIsBlank_calls (x : Nat) W)
        rw [hq] at HI
        clear hq hR2
        go_wp2_with fail
        refine (HI.out _).mono ?_
        rintro e w1 ⟨rfl, rfl⟩
        go_wp2
        go_ret
        exact ⟨by rw [hfin.out]; rfl, rfl⟩
    · have hfin := Aside0.mk (hR2.out.trans (blanksN_stop (fun h => hlt h.1)))
      clear hR2
      go_wp2
      go_ret
      exact ⟨by rw [hfin.out]; rfl, rfl⟩
end Go.Proofs.YtmfkdgdamepbcaaGreatDoor
