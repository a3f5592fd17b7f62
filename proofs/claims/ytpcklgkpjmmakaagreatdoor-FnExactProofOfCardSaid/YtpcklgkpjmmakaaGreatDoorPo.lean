/- The walks of ProofOk: program and reference; what the law copies and compares. -/
import Derived.Test.YtpcklgkpjmmakaaGreatDoorSumOf
import Derived.Test.YtpcklgkpjmmakaaGreatDoorProg
import Derived.WalkKit
import Derived.WalkLawsBesides
import Derived.WalkSpells
import Derived.Deep.LoopGhost
import Derived.Deep.QuietTactic
import Derived.BigQuiet
import Derived.Outline
import Derived.Shelf.Abstract
import Derived.Deep.RegionHeld3
namespace Go.Proofs.YtpcklgkpjmmakaaGreatDoor
open Go.RowKit
set_option linter.unusedVariables false
set_option linter.unusedSimpArgs false
theorem Tryz.info_ints : (Tryz.prog.info? 29).map (fun i => (i.zero, i.size, i.bytes)) = some (some (.slice none 0 0), 1, 24) := by kernel_rfl
theorem toIntS_calls {ok : Nat → Prop} (A : Option Addr) (xs : List Int) (c : Nat) (w : World) (hr : Row (Kd.int .i64) w ok A xs) (hn : xs.length ≤ 1048576) :
    Calls Tryz.prog 28 #[.slice A xs.length c] w fun e w' => (∃ A' c', e = .returned (.slice A' xs.length c') ∧ Own (Kd.int .i64) 3 w' w.heap.size (fun k => w.heap.size ≤ k) (.slice A' xs.length c') xs) ∧ Below w.heap.size w w' := by
  obtain ⟨i, hi, hz0, hz1, hz2⟩ := info_parts Tryz.info_int
  go_enter Tryz.func28, Tryz.ntmps28
  go_wp2_with (at_make; refine wpList_make_full _ rfl _ _ 29 rfl w.heap.size 3 i (.int .i64 0) 1 Tryz.underlying29 hi hz0 hz1 _ _ _ _ xs.length rfl rfl rfl rfl (by rw [hz2]; omega) (by unfold maxLen; omega) (Nat.le_refl _) ?_; intro w1 hown hgrow)
  go_loopg [4] xs.length (fun k i wr => ∃ (j : Nat) (cells : List Value), i = .int .i64 j ∧ j + k = xs.length ∧ wr.ownsRow w.heap.size 3 1 (.slice (some ⟨w.heap.size, 0, none⟩) xs.length xs.length) xs.length cells ∧ Aside (Fill (Kd.int .i64) wr (fun k => w.heap.size < k) xs j cells) ∧ Below w.heap.size w wr)
  case atStart => exact ⟨0, _, rfl, by omega, hown, Fill.start _ _ _ (by rw [hown.1]; omega), (Below.refl _ _).grown hgrow (Nat.le_refl _) (by simp)⟩
  case round =>
    obtain ⟨j, cells, rfl, hk, hown1, hf, hb⟩ := hrel
    clear hown hgrow
    by_cases hlt : j < xs.length
    · obtain ⟨b, o, rfl, hbl, h0⟩ := int_at (hr.below hb) j hlt
      have hcl := hown1.cellAt j (by omega)
      have hx : j < cells.length := by rw [hf.out.1]; exact hlt
      rw [List.getElem?_eq_getElem hx] at hcl
      have hfr := hown1.frozenAt j
      have hst := hown1.stored j (.int .i64 xs[j])
      have hf2 := (hf.out.agree (w1 := wr.setCell ⟨w.heap.size, j, none⟩ (.int .i64 xs[j])) (fun k hk _ => Below.heap_setCell _ _ _ _ (by simp; omega))).step hlt (u := .int .i64 xs[j]) rfl
      have HS := Aside0.mk hst
      clear hr hst
      go_wp2
      go_roundg (gk - 1)
      case measure => omega
      case rel => exact ⟨j + 1, _, by go_num, by omega, HS.out.1, hf2, below_setNew hb (Nat.le_refl _)⟩
    · have hf2 := hf.out.done (by omega) rfl
      have HO : Own (Kd.int .i64) 3 wr w.heap.size (fun k => w.heap.size ≤ k) (.slice (some ⟨w.heap.size, 0, none⟩) xs.length xs.length) xs := ⟨cells, hown1, hf2.mono (fun _ h => Nat.le_of_lt h)⟩
      clear hf hf2 hown1
      go_wp2
      go_ret
      exact ⟨⟨_, _, rfl, HO⟩, hb⟩
theorem eqIntS_same {ok ok2 : Nat → Prop} (A B : Option Addr) (xs : List Int) (c c' : Nat) (w : World) (h1 : Row (Kd.int .i64) w ok A xs) (h2 : Row (Kd.int .i64) w ok2 B xs) :
    Calls Tryz.prog 31 #[.slice A xs.length c, .slice B xs.length c'] w fun e w' => e = .returned (.bool true) ∧ Drawn w w' := by
  have hm := h1.max
  go_enter Tryz.func31, Tryz.ntmps31
  go_wp2
  go_loopg [5] xs.length (fun k i wr => ∃ (j : Nat), i = .int .i64 j ∧ j + k = xs.length ∧ Drawn w wr)
  case atStart => exact ⟨0, rfl, by omega, Drawn.refl _⟩
  case round =>
    obtain ⟨j, rfl, hk, hd⟩ := hrel
    by_cases hlt : j < xs.length
    · obtain ⟨b, o, rfl, hb, e1⟩ := int_at (h1.below hd.below) j hlt
      obtain ⟨b', o', rfl, hb', e2⟩ := int_at (h2.below hd.below) j hlt
      clear h1 h2
      go_wp2
      go_quiet (fail)
      go_wp2
      go_roundg (gk - 1)
      case measure => omega
      case rel => exact ⟨j + 1, by go_num, by omega, hd.trans (Drawn.of _ _)⟩
    · go_wp2
      go_ret
      exact ⟨rfl, hd⟩
theorem eqIntSS_same {ok ok2 : Nat → Prop} (A B : Option Addr) (xs : List (List Int)) (c c' : Nat) (w : World) (h1 : Row (Kd.slice (Kd.int .i64)) w ok A xs) (h2 : Row (Kd.slice (Kd.int .i64)) w ok2 B xs) :
    Calls Tryz.prog 69 #[.slice A xs.length c, .slice B xs.length c'] w fun e w' => e = .returned (.bool true) ∧ Drawn w w' := by
  have hm := h1.max
  go_enter Tryz.func69, Tryz.ntmps69
  go_wp2
  go_loopg [5] xs.length (fun k i wr => ∃ (j : Nat), i = .int .i64 j ∧ j + k = xs.length ∧ Drawn w wr)
  case atStart => exact ⟨0, rfl, by omega, Drawn.refl _⟩
  case round =>
    obtain ⟨j, rfl, hk, hd⟩ := hrel
    by_cases hlt : j < xs.length
    · obtain ⟨b, o, A1, c1, rfl, hb, e1, _, g1⟩ := slice_at (h1.below hd.below) j hlt
      obtain ⟨b', o', A2, c2, rfl, hb', e2, _, g2⟩ := slice_at (h2.below hd.below) j hlt
      clear h1 h2
      go_wp2
      go_quiet ((go_at_call 31; exact Calls.quiet_of (eqIntS_same _ _ _ _ _ _ (g1.drewN _) (g2.drewN _))))
      go_wp2
      go_roundg (gk - 1)
      case measure => omega
      case rel => exact ⟨j + 1, by go_num, by omega, hd.trans (Drawn.of _ _)⟩
    · go_wp2
      go_ret
      exact ⟨rfl, hd⟩
theorem eqProof_same {o1 o2 o3 o4 : Nat → Prop} (A B C D : Option Addr) (own : List Int) (kids : List (List Int)) (c c1 c2 c3 : Nat) (w : World) (h1 : Row (Kd.int .i64) w o1 A own) (h2 : Row (Kd.slice (Kd.int .i64)) w o2 B kids) (h3 : Row (Kd.int .i64) w o3 C own) (h4 : Row (Kd.slice (Kd.int .i64)) w o4 D kids) :
    Calls Tryz.prog 29 #[.agg #[.slice A own.length c, .slice B kids.length c1], .agg #[.slice C own.length c2, .slice D kids.length c3]] w fun e w' => e = .returned (.bool true) ∧ Below w.heap.size w w' := by
  go_enter Tryz.func29, Tryz.ntmps29
  go_wp2_with fail
  have HB : Below w.heap.size w ((w.alloc (.cells #[.slice A own.length c, .slice B kids.length c1] 35)).alloc (.cells #[.slice C own.length c2, .slice D kids.length c3] 35)) := below_alloc (below_alloc (Below.refl _ _) _) _
  refine (eqIntS_same _ _ _ _ _ _ (h1.below HB) (h3.below HB)).mono ?_
  rintro e w1 ⟨rfl, hd⟩
  have HB1 := below_then HB hd.below
  obtain ⟨hc1, hf1⟩ := bcell hd.below
  go_wp2_with fail
  refine (eqIntSS_same _ _ _ _ _ _ (h2.below HB1) (h4.below HB1)).mono ?_
  rintro e w2 ⟨rfl, hd2⟩
  have HB2 := below_then HB1 hd2.below
  go_wp2
  go_ret
  exact ⟨rfl, HB2⟩
/-! ### the reference's and the program's -/
end Go.Proofs.YtpcklgkpjmmakaaGreatDoor
