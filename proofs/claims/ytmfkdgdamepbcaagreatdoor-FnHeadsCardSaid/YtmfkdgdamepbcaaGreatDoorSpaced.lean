/- A text's bytes, each blank made byte 32, in place. -/
import Derived.Test.YtmfkdgdamepbcaaGreatDoorScnP
import Derived.Test.YtmfkdgdamepbcaaGreatDoorStand
import Derived.Test.YtmfkdgdamepbcaaGreatDoorBase
namespace Go.Proofs.YtmfkdgdamepbcaaGreatDoor
open Go.RowKit Go.Lib
set_option linter.unusedVariables false
set_option linter.unusedSimpArgs false
set_option maxHeartbeats 4000000
set_option maxRecDepth 20000
/-- Block g holds v's bytes, those ahead of j spaced. -/
structure SpAt (g : Nat) (v : ByteArray) (wb : World) (j : Nat) (w : World) : Prop where
  done : ∀ i, i < j → (h : i < v.size) → w.cell? ⟨g, i, none⟩ = some (.int .u8 ((spB (v[i]'h)).toNat : Nat))
  left : ∀ i, j ≤ i → (h : i < v.size) → w.cell? ⟨g, i, none⟩ = some (.int .u8 ((v[i]'h).toNat : Nat))
  free : ∀ i, i < v.size → w.frozen? ⟨g, i, none⟩ = false
  moved : Moved g wb w
theorem sp_start (w : World) (e : TypeId) (v : ByteArray) : SpAt w.heap.size v (Lib.bytesWorld w e v) 0 (Lib.bytesWorld w e v) where
  done := fun i h => by omega
  left := fun i _ h => by
    rw [Lib.bytesWorld_cell w e v i h, List.getD_eq_getElem?_getD, str_get v i h]
    rfl
  free := fun i h => by
    have hs : v.size ≤ (Lib.bytesCells w e v).size := by simp [Lib.bytesCells]
    simp only [World.frozen?, Lib.bytesWorld_at_new]
    simp
    omega
  moved := Moved.refl _ _
theorem SpAt.keep {g j : Nat} {v : ByteArray} {wb w : World} (h : SpAt g v wb j w) (hj : j < v.size) (hs : spB (v[j]'hj) = v[j]'hj) : SpAt g v wb (j + 1) w where
  done := fun i hi hv => by
    by_cases e : i = j
    · subst e; rw [hs]; exact h.left i (Nat.le_refl _) hv
    · exact h.done i (by omega) hv
  left := fun i hi hv => h.left i (by omega) hv
  free := h.free
  moved := h.moved
theorem SpAt.put {g j : Nat} {v : ByteArray} {wb w : World} (h : SpAt g v wb j w) (hj : j < v.size) (hs : spB (v[j]'hj) = 32) : SpAt g v wb (j + 1) (w.setCell ⟨g, j, none⟩ (.int .u8 32)) where
  done := fun i hi hv => by
    by_cases e : i = j
    · subst e
      rw [World.cell?_setCell_same w _ _ (h.left i (Nat.le_refl _) hv), hs]
      rfl
    · rw [World.cell?_setCell_other w _ _ _ (fun x => e (by injection x with _ x; exact x.symm))]
      exact h.done i (by omega) hv
  left := fun i hi hv => by
    rw [World.cell?_setCell_other w _ _ _ (fun x => by injection x with _ x; omega)]
    exact h.left i (by omega) hv
  free := fun i hi => by rw [World.frozen?_setCell]; exact h.free i hi
  moved := h.moved.set
theorem spB_yes {b : UInt8} (h : isBlank (b.toNat : Nat) = true) : spB b = 32 := by unfold spB; rw [if_pos h]
theorem spB_no {b : UInt8} (h : isBlank (b.toNat : Nat) = false) : spB b = b := by unfold spB; rw [h]; rfl
theorem SpAt.text {g c : Nat} {v : ByteArray} {wb w : World} (h : SpAt g v wb v.size w) :
    (convert 22 9 (.slice (some ⟨g, 0, none⟩) v.size c)).run Tryz.prog w = .ok (.string (spacedB v)) w := by
  have e : strOfNums (v.data.toList.map fun b => ((spB b).toNat : Int)) = spacedB v := str_ext (by
    rw [strOfNums_data, List.map_map]
    show _ = ((v.data.toList.map spB).toArray).toList
    rw [List.toList_toArray]
    refine List.map_congr_left (fun b _ => ?_)
    simp)
  rw [← e]
  refine run_convert_bytes_arg (P := Tryz.prog) _ 22 5 Tryz.underlying22 Tryz.underlying5 g 0 v.size c _ (by rw [List.length_map, str_size]) ?_ 9 Tryz.underlying9
  intro i hi
  rw [Nat.zero_add, h.done i hi hi, List.getD_eq_getElem?_getD, List.getElem?_map, str_get v i hi]
  rfl
theorem spaced_calls (v : ByteArray) (w : World) (hs : v.size ≤ 1000000000) :
    Calls Tryz.prog 115 #[.string v] w fun e w' => e = .returned (.string (spacedB v)) ∧ Below w.heap.size w w' := by
  have hcv := @Lib.run_convert_string_bytes Tryz.prog w 9 22 5 v _ Tryz.underlying9 Tryz.underlying22 Tryz.underlying5
  have hsp := Aside0.mk (sp_start w 5 v)
  have hwbb := Aside0.mk (below_bytes2 w 5 v)
  go_enter Tryz.func115, Tryz.ntmps115
  go_wp2
  generalize Lib.bytesWorld w 5 v = wb at hsp hwbb ⊢
  generalize grownCap w v.size 0 5 = cb
  clear hcv
  go_loopg [10] v.size (fun k i wr => ∃ j : Nat, i = .int .i64 j ∧ j + k = v.size ∧ SpAt w.heap.size v wb j wr)
  case atStart => exact ⟨0, rfl, by omega, hsp.out⟩
  case round =>
    obtain ⟨j, rfl, hk, ha⟩ := hrel
    by_cases hlt : j < v.size
    · have hc := ha.left j (Nat.le_refl _) hlt
      have hf := ha.free j hlt
      have HA := Aside0.mk ha
      have hsy := Aside0.mk (fun h => spB_yes (b := v[j]'hlt) h)
      have hsn := Aside0.mk (fun h => spB_no (b := v[j]'hlt) h)
      obtain ⟨x, hx⟩ : ∃ x : Nat, (v[j]'hlt).toNat = x := ⟨_, rfl⟩
      have hx256 : x < 256 := by rw [← hx]; exact UInt8.toNat_lt _
      rw [hx] at hc hsy hsn
      have HI := Aside0.mk (fun W => implIsBlank_calls (x : Nat) W)
      clear ha hx
      cases hq : isBlank (x : Nat) with
      | true =>
        have hnx := Aside0.mk (HA.out.put hlt (hsy.out hq))
        rw [hq] at HI
        clear hq hsy hsn
        go_wp2_with fail
        refine (HI.out _).mono ?_
        rintro e w1 ⟨rfl, rfl⟩
        go_wp2
        go_roundg (gk - 1)
        case measure => omega
        case rel => exact ⟨j + 1, by go_num, by omega, hnx.out⟩
      | false =>
        have hnx := Aside0.mk (HA.out.keep hlt (hsn.out hq))
        rw [hq] at HI
        clear hq hsy hsn
        go_wp2_with fail
        refine (HI.out _).mono ?_
        rintro e w1 ⟨rfl, rfl⟩
        go_wp2
        go_roundg (gk - 1)
        case measure => omega
        case rel => exact ⟨j + 1, by go_num, by omega, hnx.out⟩
    · obtain rfl : j = v.size := by omega
      have hcv := ha.text (c := cb)
      have hm := Aside0.mk ha.moved
      clear ha hsp
      go_wp2
      go_ret
      exact ⟨rfl, below_moved hwbb.out hm.out (Nat.le_refl _)⟩
end Go.Proofs.YtmfkdgdamepbcaaGreatDoor
