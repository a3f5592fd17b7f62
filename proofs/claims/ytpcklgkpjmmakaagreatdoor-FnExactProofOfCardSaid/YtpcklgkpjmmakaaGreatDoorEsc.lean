/- EscText, EscAttr, of both. -/
import Derived.Test.YtpcklgkpjmmakaaGreatDoorEscPl
import Derived.Test.YtpcklgkpjmmakaaGreatDoorSgnImpl
import Derived.Deep.DeepCutAuto
import Derived.Deep.CutBlock
namespace Go.Proofs.YtpcklgkpjmmakaaGreatDoor
open Go.RowKit Go.Lib
set_option linter.unusedVariables false
set_option linter.unusedSimpArgs false
set_option maxHeartbeats 1000000
theorem replaceAll_one (s : ByteArray) (c : UInt8) (new : ByteArray) (w : World) (hs : s.size ≤ 1000000000) (hE : Env w) (h1 : 1 ≤ new.size) (h2 : new.size ≤ 6) (hne : [c] ≠ new.data.toList) :
    Calls Tryz.prog 162 #[.string s, .string ⟨#[c]⟩, .string new] w fun e w' => (∃ t : ByteArray, e = .returned (.string t) ∧ t.data.toList = rep c new.data.toList s.data.toList ∧ t.size ≤ new.size * s.size) ∧ Below w.heap.size w w' := by
  obtain ⟨m, hm⟩ := hE.len
  have hcnt : countB s ⟨#[c]⟩ ≤ s.size := by
    show count s.data.toList [c] ≤ s.size
    rw [count_one, ← str_size]
    exact List.count_le_length
  have hmul : countB s ⟨#[c]⟩ * new.size ≤ s.size * 6 := Nat.mul_le_mul hcnt h2
  refine (Tryz.strings_ReplaceAll s ⟨#[c]⟩ new m w (by omega) hm (Nat.le_refl 1) (by omega)).mono ?_
  rintro e w' ⟨rfl, hb⟩
  have e1 : replaceAll s.data.toList (⟨#[c]⟩ : ByteArray).data.toList new.data.toList = rep c new.data.toList s.data.toList := replaceAll_rep c _ _ hne
  refine ⟨⟨_, rfl, by rw [e1], ?_⟩, hb⟩
  rw [e1]
  show (rep c new.data.toList s.data.toList).length ≤ _
  have := rep_length c new.data.toList s.data.toList (by rw [str_size]; exact h1)
  rw [str_size, str_size] at this
  exact this
theorem implEscText_calls (s : ByteArray) (w : World) (hs : s.size ≤ 1048576) (hE : Env w) :
    Calls Tryz.prog 142 #[.string s] w fun e w' => e = .returned (.string ⟨(escT s.data.toList).toArray⟩) ∧ Below w.heap.size w w' := by
  have HE := Aside0.mk hE
  clear hE
  go_enter Tryz.func142, Tryz.ntmps142
  go_wp2_with fail
  refine (replaceAll_one s 38 ⟨#[38, 97, 109, 112, 59]⟩ w (by omega) HE.out (by decide) (by decide) (by decide)).mono ?_
  rintro e w1 ⟨⟨t1, rfl, e1, z1⟩, hb1⟩
  have z1' : t1.size ≤ 5242880 := by have z : _ ≤ 5 * _ := z1; omega
  have E1 := Aside0.mk e1
  clear e1 z1
  go_wp2_with fail
  refine (replaceAll_one t1 60 ⟨#[38, 108, 116, 59]⟩ w1 (by omega) (HE.out.below hb1) (by decide) (by decide) (by decide)).mono ?_
  rintro e w2 ⟨⟨t2, rfl, e2, z2⟩, hb2⟩
  have z2' : t2.size ≤ 20971520 := by have z : _ ≤ 4 * _ := z2; omega
  have E2 := Aside0.mk e2
  clear e2 z2
  go_wp2_with fail
  refine (replaceAll_one t2 62 ⟨#[38, 103, 116, 59]⟩ w2 (by omega) ((HE.out.below hb1).below hb2) (by decide) (by decide) (by decide)).mono ?_
  rintro e w3 ⟨⟨t3, rfl, e3, z3⟩, hb3⟩
  have z3' : t3.size ≤ 83886080 := by have z : _ ≤ 4 * _ := z3; omega
  have E3 := Aside0.mk e3
  clear e3 z3
  go_wp2_with fail
  refine (replaceAll_one t3 13 ⟨#[38, 35, 49, 51, 59]⟩ w3 (by omega) (((HE.out.below hb1).below hb2).below hb3) (by decide) (by decide) (by decide)).mono ?_
  rintro e w4 ⟨⟨t4, rfl, e4, z4⟩, hb4⟩
  have hfin := Aside0.mk (show t4 = ⟨(escT s.data.toList).toArray⟩ by
    apply str_ext
    rw [e4, E3.out, E2.out, E1.out]
    exact escT_chain _)
  clear e4 z4
  go_wp2
  go_ret
  exact ⟨by rw [← hfin.out]; rfl, below_then hb1 (below_then hb2 (below_then hb3 hb4))⟩
theorem implEscAttr_calls (s : ByteArray) (w : World) (hs : s.size ≤ 1048576) (hE : Env w) :
    Calls Tryz.prog 145 #[.string s] w fun e w' => e = .returned (.string ⟨(escAt s.data.toList).toArray⟩) ∧ Below w.heap.size w w' := by
  have HE := Aside0.mk hE
  clear hE
  go_enter Tryz.func145, Tryz.ntmps145
  go_wp2_with fail
  refine (implEscText_calls s w hs HE.out).mono ?_
  rintro e w0 ⟨rfl, hb0⟩
  have z0 : (⟨(escT s.data.toList).toArray⟩ : ByteArray).size ≤ 6291456 := by
    have := flatMap_length_le escC_le s.data.toList
    rw [str_size] at this
    show (escT s.data.toList).length ≤ _
    unfold escT
    omega
  obtain ⟨t0, ht0⟩ : ∃ t0, t0 = (⟨(escT s.data.toList).toArray⟩ : ByteArray) := ⟨_, rfl⟩
  rw [← ht0] at z0 ⊢
  have E0 := Aside0.mk (show t0.data.toList = escT s.data.toList by rw [ht0])
  clear ht0
  go_wp2_with fail
  refine (replaceAll_one t0 34 ⟨#[38, 113, 117, 111, 116, 59]⟩ w0 (by omega) (HE.out.below hb0) (by decide) (by decide) (by decide)).mono ?_
  rintro e w1 ⟨⟨t1, rfl, e1, z1⟩, hb1⟩
  have z1' : t1.size ≤ 37748736 := by have z : _ ≤ 6 * _ := z1; omega
  have E1 := Aside0.mk e1
  clear e1 z1
  go_wp2_with fail
  refine (replaceAll_one t1 9 ⟨#[38, 35, 57, 59]⟩ w1 (by omega) ((HE.out.below hb0).below hb1) (by decide) (by decide) (by decide)).mono ?_
  rintro e w2 ⟨⟨t2, rfl, e2, z2⟩, hb2⟩
  have z2' : t2.size ≤ 150994944 := by have z : _ ≤ 4 * _ := z2; omega
  have E2 := Aside0.mk e2
  clear e2 z2
  go_wp2_with fail
  refine (replaceAll_one t2 10 ⟨#[38, 35, 49, 48, 59]⟩ w2 (by omega) (((HE.out.below hb0).below hb1).below hb2) (by decide) (by decide) (by decide)).mono ?_
  rintro e w3 ⟨⟨t3, rfl, e3, z3⟩, hb3⟩
  have hfin := Aside0.mk (show t3 = ⟨(escAt s.data.toList).toArray⟩ by
    apply str_ext
    rw [e3, E2.out, E1.out, E0.out]
    exact escAt_chain _)
  clear e3 z3
  go_wp2
  go_ret
  exact ⟨by rw [← hfin.out]; rfl, below_then hb0 (below_then hb1 (below_then hb2 hb3))⟩
def escF (attr : Bool) (b : UInt8) : List UInt8 := if attr then escA b else escC b
theorem l3Esc_calls (s : ByteArray) (attr : Bool) (w : World) (hs : s.size ≤ 1048576) :
    Calls Tryz.prog 173 #[.string s, .bool attr] w fun e w' => e = .returned (.string ⟨(s.data.toList.flatMap (escF attr)).toArray⟩) ∧ w = w' := by
  go_enter Tryz.func173, Tryz.ntmps173
  go_wp2
  go_loopg [5, 6] s.size (fun k a b wr => ∃ (t : ByteArray) (j : Nat), a = .string t ∧ b = .int .i64 j ∧ j + k = s.size ∧ t.size ≤ 6 * j ∧ Aside (t.data.toList = (s.data.toList.take j).flatMap (escF attr)) ∧ wr = w)
  case atStart => exact ⟨_, 0, rfl, rfl, by omega, by decide, (show ([] : List UInt8) = _ by simp), rfl⟩
  case round =>
    obtain ⟨t, j, rfl, rfl, hk, hz, ha, rfl⟩ := hrel
    by_cases hj : j < s.size
    · have hstep := Aside0.mk (str_take s j hj)
      have hex := Aside0.mk (show (s.extract j (j + 1)).data.toList = [s[j]] by
        have := Lib.extract_data s j (j + 1)
        rw [this, show j + 1 - j = 1 by omega, List.take_one, List.head?_drop, str_get s j hj]; rfl)
      have hb : s[j].toNat < 256 := UInt8.toNat_lt _
      have hx1 : (s.extract j (j + 1)).size ≤ 6 := by rw [ByteArray.size_extract]; omega
      go_upto_block 2 with fail
      go_cut [7, 21] (fun a c wx => ∃ x : ByteArray, a = .string x ∧ x.size ≤ 6 ∧ Aside (x.data.toList = escF attr s[j]) ∧ wx = wr)
      case first =>
        by_cases b38 : s[j].toNat = 38
        · have hc := Aside0.mk (show (⟨#[38, 97, 109, 112, 59]⟩ : ByteArray).data.toList = escF attr s[j] by rw [show s[j] = 38 from UInt8.toNat_inj.1 b38]; cases attr <;> rfl)
          go_wp2
          go_meet
          case rel => exact ⟨_, rfl, by decide, hc.out, rfl⟩
        by_cases b60 : s[j].toNat = 60
        · have hc := Aside0.mk (show (⟨#[38, 108, 116, 59]⟩ : ByteArray).data.toList = escF attr s[j] by rw [show s[j] = 60 from UInt8.toNat_inj.1 b60]; cases attr <;> rfl)
          go_wp2
          go_meet
          case rel => exact ⟨_, rfl, by decide, hc.out, rfl⟩
        by_cases b62 : s[j].toNat = 62
        · have hc := Aside0.mk (show (⟨#[38, 103, 116, 59]⟩ : ByteArray).data.toList = escF attr s[j] by rw [show s[j] = 62 from UInt8.toNat_inj.1 b62]; cases attr <;> rfl)
          go_wp2
          go_meet
          case rel => exact ⟨_, rfl, by decide, hc.out, rfl⟩
        by_cases b13 : s[j].toNat = 13
        · have hc := Aside0.mk (show (⟨#[38, 35, 49, 51, 59]⟩ : ByteArray).data.toList = escF attr s[j] by rw [show s[j] = 13 from UInt8.toNat_inj.1 b13]; cases attr <;> rfl)
          go_wp2
          go_meet
          case rel => exact ⟨_, rfl, by decide, hc.out, rfl⟩
        by_cases b34 : s[j].toNat = 34
        · cases attr
          · have hc := Aside0.mk (show (s.extract j (j + 1)).data.toList = escF false s[j] by rw [hex.out, show s[j] = 34 from UInt8.toNat_inj.1 b34]; rfl)
            go_wp2
            go_meet
            case rel => exact ⟨_, rfl, hx1, hc.out, rfl⟩
          · have hc := Aside0.mk (show (⟨#[38, 113, 117, 111, 116, 59]⟩ : ByteArray).data.toList = escF true s[j] by rw [show s[j] = 34 from UInt8.toNat_inj.1 b34]; rfl)
            go_wp2
            go_meet
            case rel => exact ⟨_, rfl, by decide, hc.out, rfl⟩
        by_cases b9 : s[j].toNat = 9
        · cases attr
          · have hc := Aside0.mk (show (s.extract j (j + 1)).data.toList = escF false s[j] by rw [hex.out, show s[j] = 9 from UInt8.toNat_inj.1 b9]; rfl)
            go_wp2
            go_meet
            case rel => exact ⟨_, rfl, hx1, hc.out, rfl⟩
          · have hc := Aside0.mk (show (⟨#[38, 35, 57, 59]⟩ : ByteArray).data.toList = escF true s[j] by rw [show s[j] = 9 from UInt8.toNat_inj.1 b9]; rfl)
            go_wp2
            go_meet
            case rel => exact ⟨_, rfl, by decide, hc.out, rfl⟩
        by_cases b10 : s[j].toNat = 10
        · cases attr
          · have hc := Aside0.mk (show (s.extract j (j + 1)).data.toList = escF false s[j] by rw [hex.out, show s[j] = 10 from UInt8.toNat_inj.1 b10]; rfl)
            go_wp2
            go_meet
            case rel => exact ⟨_, rfl, hx1, hc.out, rfl⟩
          · have hc := Aside0.mk (show (⟨#[38, 35, 49, 48, 59]⟩ : ByteArray).data.toList = escF true s[j] by rw [show s[j] = 10 from UInt8.toNat_inj.1 b10]; rfl)
            go_wp2
            go_meet
            case rel => exact ⟨_, rfl, by decide, hc.out, rfl⟩
        have hc := Aside0.mk (show (s.extract j (j + 1)).data.toList = escF attr s[j] by
          have n : ∀ k : UInt8, s[j].toNat ≠ k.toNat → s[j] ≠ k := fun k h e => h (by rw [e])
          rw [hex.out]
          unfold escF escA escC
          rw [if_neg (n 34 b34), if_neg (n 9 b9), if_neg (n 10 b10), if_neg (n 38 b38), if_neg (n 60 b60), if_neg (n 62 b62), if_neg (n 13 b13)]
          simp)
        go_wp2
        go_meet
        case rel => exact ⟨_, rfl, hx1, hc.out, rfl⟩
      case rest =>
        obtain ⟨x, rfl, hx, hxe, rfl⟩ := hcut
        have hnx := Aside0.mk (show (t ++ x).data.toList = (s.data.toList.take (j + 1)).flatMap (escF attr) by
          rw [str_append, ha.out, hxe.out, hstep.out, List.flatMap_append]
          simp)
        have hzz : ¬ (9223372036854775807 < t.size + x.size) := by omega
        have hz2 : (t ++ x).size ≤ 6 * (j + 1) := by rw [ByteArray.size_append]; omega
        clear hstep hex hx1
        go_wp2
        go_roundg (gk - 1)
        case measure => omega
        case rel => exact ⟨t ++ x, j + 1, rfl, by go_num, by omega, hz2, hnx.out, rfl⟩
    · have hfin := Aside0.mk (show t = ⟨(s.data.toList.flatMap (escF attr)).toArray⟩ by
        apply str_ext
        rw [ha.out, List.take_of_length_le (by rw [str_size]; omega)])
      clear ha
      go_wp2
      go_ret
      exact ⟨by rw [← hfin.out]; rfl, rfl⟩
theorem specEscText_calls (s : ByteArray) (w : World) (hs : s.size ≤ 1048576) :
    Calls Tryz.prog 147 #[.string s] w fun e w' => e = .returned (.string ⟨(escT s.data.toList).toArray⟩) ∧ w = w' := by
  go_enter Tryz.func147, Tryz.ntmps147
  go_wp2_with fail
  refine (l3Esc_calls s false w hs).mono ?_
  rintro e w1 ⟨rfl, rfl⟩
  go_wp2
  go_ret
  exact ⟨rfl, rfl⟩
theorem specEscAttr_calls (s : ByteArray) (w : World) (hs : s.size ≤ 1048576) :
    Calls Tryz.prog 149 #[.string s] w fun e w' => e = .returned (.string ⟨(escAt s.data.toList).toArray⟩) ∧ w = w' := by
  go_enter Tryz.func149, Tryz.ntmps149
  go_wp2_with fail
  refine (l3Esc_calls s true w hs).mono ?_
  rintro e w1 ⟨rfl, rfl⟩
  go_wp2
  go_ret
  exact ⟨rfl, rfl⟩
end Go.Proofs.YtpcklgkpjmmakaaGreatDoor
