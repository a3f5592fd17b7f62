/- Draws: a cursor over the bytes of a draw; only its block and new ones change. -/
import Derived.Test.YtmfkdgdamepbcaaGreatDoorProg
import Derived.Test.YtmfkdgdamepbcaaGreatDoorBase
import Derived.WalkKit
import Derived.WalkLawsBesides
import Derived.WalkSpells
import Derived.Deep.LoopGhost
import Derived.Deep.QuietTactic
import Derived.BigQuiet
import Derived.Outline
import Derived.Laws.BytesArg
import Derived.Shelf.Abstract
import Derived.Deep.RegionHeld3
namespace Go.Proofs.YtmfkdgdamepbcaaGreatDoor
open Go.RowKit
set_option linter.unusedVariables false
set_option linter.unusedSimpArgs false
/-- Block g holds a cursor. -/
def Cur (w : World) (g : Nat) : Prop :=
  ∃ A c i h, ∃ xs : List Int, w.heap[g]? = some (.cells #[.slice A xs.length c, .int .i64 i, .int .i64 h] 110 (0, 0)) ∧ 0 ≤ i ∧ i ≤ xs.length ∧ xs.length ≤ c ∧ Row (Kd.int .u8) w (fun k => k < g) A xs
theorem Cur.lt {w : World} {g : Nat} (h : Cur w g) : g < w.heap.size := by
  obtain ⟨_, _, _, _, _, h, _⟩ := h
  exact (Array.getElem?_eq_some_iff.1 h).1
theorem Cur.below {w w' : World} {g : Nat} (h : Cur w g) (hb : Below w.heap.size w w') : Cur w' g := by
  have hl := h.lt
  obtain ⟨A, c, i, k, xs, h, h0, h1, h2, hr⟩ := h
  exact ⟨A, c, i, k, xs, by rw [hb.block g hl]; exact h, h0, h1, h2, hr.below hb⟩
theorem Cur.cells {w : World} {g : Nat} (h : Cur w g) : ∃ A n c i k, w.cell? ⟨g, 0, none⟩ = some (.slice A n c) ∧ w.cell? ⟨g, 1, none⟩ = some (.int .i64 i) ∧ w.cell? ⟨g, 2, none⟩ = some (.int .i64 k) := by
  obtain ⟨A, c, i, k, xs, h, _⟩ := h
  exact ⟨A, _, c, i, k, by rw [cell_of_row _ _ _ _ _ _ h]; rfl, by rw [cell_of_row _ _ _ _ _ _ h]; rfl, by rw [cell_of_row _ _ _ _ _ _ h]; rfl⟩
theorem and255 (n : Int) : 0 ≤ bits .and .i64 n 255 ∧ bits .and .i64 n 255 < 256 := by
  unfold bits
  have h : (BitVec.ofInt IntKind.i64.bits n &&& BitVec.ofInt IntKind.i64.bits 255).toNat < 256 := by
    rw [BitVec.toNat_and]
    exact Nat.lt_of_le_of_lt Nat.and_le_right (by decide)
  simp only
  generalize (BitVec.ofInt IntKind.i64.bits n &&& BitVec.ofInt IntKind.i64.bits 255).toNat = m at *
  rw [IntKind.wrap_i64]
  omega
theorem cur_alloc {w : World} {A : Option Addr} {c : Nat} {xs : List Int} {h : Int} (hl : xs.length ≤ c) (hr : Row (Kd.int .u8) w (fun k => k < w.heap.size) A xs) :
    Cur (w.alloc (.cells #[.slice A xs.length c, .int .i64 0, .int .i64 h] 110 (0, 0))) w.heap.size :=
  ⟨A, c, 0, h, xs, Array.getElem?_push_size, by omega, by omega, hl, hr.below (below_alloc (Below.refl _ _) _)⟩
/-- A cursor's block, stored anew. -/
theorem cur_set {w w' : World} {g : Nat} {A : Option Addr} {c : Nat} {xs : List Int} {i h : Int} (hw : w'.heap[g]? = some (.cells #[.slice A xs.length c, .int .i64 i, .int .i64 h] 110 (0, 0)))
    (hm : Moved g w w') (h0 : 0 ≤ i) (h1 : i ≤ xs.length) (hl : xs.length ≤ c) (hr : Row (Kd.int .u8) w (fun k => k < g) A xs) : Cur w' g :=
  ⟨A, c, i, h, xs, hw, h0, h1, hl, moved_row hm hr (fun k hk => Nat.ne_of_lt hk)⟩
theorem l1New_calls (A : Option Addr) (c : Nat) (xs : List Int) (w : World) (hl : xs.length ≤ c) (hr : Row (Kd.int .u8) w (fun k => k < w.heap.size) A xs) :
    Calls Tryz.prog 32 #[.slice A xs.length c] w fun e w' => ∃ g, e = .returned (.pointer (some ⟨g, 0, none⟩)) ∧ w.heap.size ≤ g ∧ Below w.heap.size w w' ∧ Cur w' g := by
  have hmax := hr.max
  go_enter Tryz.func32, Tryz.ntmps32
  go_wp2
  go_loopg [3, 4] (4001 : Nat) (fun k s t wr => ∃ h j, s = .int .i64 h ∧ t = .int .i64 j ∧ 0 ≤ j ∧ j ≤ 4000 ∧ j ≤ xs.length ∧ j + k = 4001 ∧ wr = w)
  case atStart => exact ⟨_, 0, rfl, rfl, by omega, by omega, by omega, by omega, rfl⟩
  case round =>
    obtain ⟨h, j, rfl, rfl, h0, h1, h2, h3, rfl⟩ := hrel
    by_cases hj : j < xs.length
    · by_cases h4 : j < 4000
      · obtain ⟨b, o, rfl, hb, hc⟩ := int_at hr j.toNat (by omega)
        rw [show o + j.toNat = o + j.toNat from rfl] at hc
        go_wp2
        go_roundg (gk - 1)
        case measure => omega
        case rel => exact ⟨_, j + 1, rfl, by go_num, by omega, by omega, by omega, by omega, rfl⟩
      · go_wp2
        go_ret
        exact ⟨_, rfl, Nat.le_refl _, below_alloc (Below.refl _ _) _, cur_alloc hl hr⟩
    · go_wp2
      go_ret
      exact ⟨_, rfl, Nat.le_refl _, below_alloc (Below.refl _ _) _, cur_alloc hl hr⟩
theorem l1Byte_calls (g : Nat) (w : World) (hc : Cur w g) :
    Calls Tryz.prog 96 #[.pointer (some ⟨g, 0, none⟩)] w fun e w' => ∃ x : Int, e = .returned (.int .i64 x) ∧ 0 ≤ x ∧ x < 256 ∧ Moved g w w' ∧ Cur w' g := by
  obtain ⟨A, c, i, h, xs, hg, h0, h1, hl, hr⟩ := hc
  have hmax := hr.max
  have c0 := cell_of_row w g 0 _ _ _ hg
  have c1 := cell_of_row w g 1 _ _ _ hg
  have c2 := cell_of_row w g 2 _ _ _ hg
  have f1 := frozen_of_row w g 1 _ _ hg
  have f2 := frozen_of_row w g 2 _ _ hg
  have hg' := Aside0.mk hg
  clear hg
  simp only [List.getElem?_toArray, List.getElem?_cons_zero, List.getElem?_cons_succ] at c0 c1 c2
  go_enter Tryz.func96, Tryz.ntmps96
  go_wp2
  generalize (wrap64 (wrap64 (h * 6364136223846793005) + 1442695040888963407)) = h'
  obtain ⟨W, hW⟩ : ∃ W, W = w.setCell ⟨g, 2, none⟩ (.int .i64 h') := ⟨_, rfl⟩
  have HG : W.heap[g]? = some (.cells #[.slice A xs.length c, .int .i64 i, .int .i64 h'] 110 (0, 0)) := by rw [hW]; exact heap_setCell_same w g 2 _ _ _ hg'.out
  have HM : Moved g w W := by rw [hW]; exact (Moved.refl g w).set
  have HR : Row (Kd.int .u8) W (fun k => k < g) A xs := moved_row HM hr (fun k hk => Nat.ne_of_lt hk)
  rw [← hW]
  clear hW c0 c1 c2 f1 f2 hg' hr
  have c0 := cell_of_row W g 0 _ _ _ HG
  have c1 := cell_of_row W g 1 _ _ _ HG
  have c2 := cell_of_row W g 2 _ _ _ HG
  have f1 := frozen_of_row W g 1 _ _ HG
  simp only [List.getElem?_toArray, List.getElem?_cons_zero, List.getElem?_cons_succ] at c0 c1 c2
  have HG' := Aside0.mk HG
  clear HG
  go_quiet (fail)
  go_wp2
  go_quiet (fail)
  by_cases hi : i < xs.length
  · obtain ⟨b, o, rfl, hb, hcell⟩ := int_at HR i.toNat (by omega)
    go_wp2
    go_quiet (fail)
    go_wp2
    go_ret
    exact ⟨_, rfl, (and255 _).1, (and255 _).2, (HM.drewN _).set, cur_set (w := W) (heap_setCell_same (W.drewN _) g 1 _ _ _ HG'.out) (((Moved.refl g W).drewN _).set) (by omega) (by omega) hl HR⟩
  · go_wp2
    go_ret
    exact ⟨_, rfl, (and255 _).1, (and255 _).2, HM.drewN _, ⟨_, _, _, _, _, HG'.out, h0, h1, hl, HR⟩⟩
theorem l1Below_calls (g : Nat) (n : Int) (w : World) (hn : -9223372036854775808 ≤ n) (hn1 : n ≤ 9223372036854775807) (hc : Cur w g) :
    Calls Tryz.prog 45 #[.pointer (some ⟨g, 0, none⟩), .int .i64 n] w fun e w' => ∃ x : Int, e = .returned (.int .i64 x) ∧ 0 ≤ x ∧ (x < n ∨ n ≤ 0 ∧ x = 0) ∧ Moved g w w' ∧ Cur w' g := by
  go_enter Tryz.func45, Tryz.ntmps45
  by_cases h0 : n ≤ 0
  · go_wp2
    go_ret
    exact ⟨0, rfl, by omega, by omega, Moved.refl _ _, hc⟩
  · by_cases h1 : n ≤ 256
    · go_wp2_with fail
      refine (l1Byte_calls g w hc).mono ?_
      rintro e w1 ⟨x, rfl, hx0, hx1, hm, hc1⟩
      go_wp2
      go_ret
      have h2 := Int.tmod_nonneg n hx0
      have h3 := Int.tmod_lt_of_pos x (show 0 < n by omega)
      exact ⟨_, rfl, Int.emod_nonneg _ (by omega), .inl (Int.emod_lt_of_pos _ (by omega)), hm, hc1⟩
    · go_wp2_with fail
      refine (l1Byte_calls g w hc).mono ?_
      rintro e w1 ⟨x, rfl, hx0, hx1, hm, hc1⟩
      go_wp2_with fail
      refine (l1Byte_calls g w1 hc1).mono ?_
      rintro e w2 ⟨y, rfl, hy0, hy1, hm2, hc2⟩
      go_wp2_with fail
      refine (l1Byte_calls g w2 hc2).mono ?_
      rintro e w3 ⟨z, rfl, hz0, hz1, hm3, hc3⟩
      go_wp2
      go_ret
      have h2 := Int.tmod_nonneg n (show 0 ≤ x * 65536 + y * 256 + z by omega)
      have h3 := Int.tmod_lt_of_pos (x * 65536 + y * 256 + z) (show 0 < n by omega)
      exact ⟨_, rfl, Int.emod_nonneg _ (by omega), .inl (Int.emod_lt_of_pos _ (by omega)), hm.trans (hm2.trans hm3), hc3⟩
theorem l1Once_calls (g : Nat) (n : Int) (w : World) (hn : -9223372036854775808 ≤ n) (hn1 : n ≤ 9223372036854775807) (hc : Cur w g) :
    Calls Tryz.prog 35 #[.pointer (some ⟨g, 0, none⟩), .int .i64 n] w fun e w' => ∃ x : Bool, e = .returned (.bool x) ∧ Moved g w w' ∧ Cur w' g := by
  go_enter Tryz.func35, Tryz.ntmps35
  go_wp2_with fail
  refine (l1Below_calls g n w hn hn1 hc).mono ?_
  rintro e w1 ⟨x, rfl, hx0, hx1, hm, hc1⟩
  go_wp2
  go_ret
  exact ⟨_, rfl, hm, hc1⟩
theorem l1Int_calls (g : Nat) (A : Option Addr) (c : Nat) (xs : List Int) (w : World) (hc : Cur w g) (h0 : 0 < xs.length) (hl : xs.length ≤ c) (hr : Row (Kd.int .i64) w (fun k => k ≠ g) A xs) :
    Calls Tryz.prog 37 #[.pointer (some ⟨g, 0, none⟩), .slice A xs.length c] w fun e w' => ∃ x, e = .returned (.int .i64 x) ∧ x ∈ xs ∧ Moved g w w' ∧ Cur w' g := by
  have hmax := hr.max
  go_enter Tryz.func37, Tryz.ntmps37
  go_wp2_with fail
  refine (l1Below_calls g xs.length w (by omega) (by omega) hc).mono ?_
  rintro e w1 ⟨x, rfl, hx0, hx1, hm, hc1⟩
  obtain ⟨b, o, rfl, hb, hcell⟩ := int_at (moved_row hm hr (fun k hk => hk)) x.toNat (by omega)
  go_wp2
  go_ret
  exact ⟨_, rfl, List.getElem_mem _, hm, hc1⟩
theorem l1Str_calls (g : Nat) (A : Option Addr) (c : Nat) (xs : List ByteArray) (w : World) (hc : Cur w g) (h0 : 0 < xs.length) (hl : xs.length ≤ c) (hr : Row Kd.str w (fun k => k ≠ g) A xs) :
    Calls Tryz.prog 33 #[.pointer (some ⟨g, 0, none⟩), .slice A xs.length c] w fun e w' => ∃ x, e = .returned (.string x) ∧ x ∈ xs ∧ Moved g w w' ∧ Cur w' g := by
  have hmax := hr.max
  go_enter Tryz.func33, Tryz.ntmps33
  go_wp2_with fail
  refine (l1Below_calls g xs.length w (by omega) (by omega) hc).mono ?_
  rintro e w1 ⟨x, rfl, hx0, hx1, hm, hc1⟩
  obtain ⟨b, o, rfl, hb, hcell⟩ := str_at (moved_row hm hr (fun k hk => hk)) x.toNat (by omega)
  go_wp2
  go_ret
  exact ⟨_, rfl, List.getElem_mem _, hm, hc1⟩
/-- A row that is laid out whole. -/
theorem row_lit {α : Type} {enc : α → Value} {w : World} {ok : Nat → Prop} {T : TypeId} (xs : List α) (hok : ok w.heap.size) (hm : xs.length ≤ maxLen) :
    Row (Kd.one enc) (w.alloc (.cells (xs.map enc).toArray T (0, 0))) ok (some ⟨w.heap.size, 0, none⟩) xs := by
  refine ⟨hm, .inr ⟨_, _, rfl, hok, by rw [World.alloc, Array.size_push]; omega, fun i hi => ⟨_, rfl, fun j v hj => ?_⟩⟩⟩
  have hg : (w.alloc (.cells (xs.map enc).toArray T (0, 0))).heap[w.heap.size]? = some (.cells (xs.map enc).toArray T (0, 0)) := Array.getElem?_push_size
  rw [cell_of_row _ _ _ _ _ _ hg]
  cases j with
  | zero =>
    cases hj
    rw [show 0 + i * (Kd.one enc).sz + 0 = i from by show 0 + i * 1 + 0 = i; omega]
    simp [hi]
  | succ j => cases hj
theorem Cur.alloc {w : World} {g : Nat} (h : Cur w g) (o : Obj) : Cur (w.alloc o) g := h.below (below_alloc (Below.refl _ _) o)
end Go.Proofs.YtmfkdgdamepbcaaGreatDoor
