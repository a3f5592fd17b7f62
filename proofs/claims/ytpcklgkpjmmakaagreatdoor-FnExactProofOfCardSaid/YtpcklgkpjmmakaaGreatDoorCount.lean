/- CountOf: both walked. -/
import Derived.Test.YtpcklgkpjmmakaaGreatDoorNodeF
import Derived.Test.YtpcklgkpjmmakaaGreatDoorProg
import Derived.WalkKit
import Derived.WalkLawsBesides
import Derived.WalkSpells
import Derived.Deep.LoopGhost
import Derived.Deep.QuietTactic
import Derived.BigQuiet
import Derived.Outline
import Derived.Laws.BytesArg
import Derived.Shelf.Abstract
import Derived.Deep.RegionHeld3
namespace Go.Proofs.YtpcklgkpjmmakaaGreatDoor
open Go.RowKit
set_option linter.unusedVariables false
set_option linter.unusedSimpArgs false
theorem specCountOf_calls : ∀ (N : Nat) (n : Nd) (s : Sh) (w : World) (ok : Nat → Prop), cnt n ≤ N → cnt n ≤ 1099511627776 → NodeIs w ok n s →
    Calls Tryz.prog 127 #[.agg #[.int .i64 n.kind, .string n.pre, .string n.loc, .string n.uri, .slice s.Ad n.decls.length s.cd, .slice s.Aa n.attrs.length s.ca, .slice s.Ak n.kids.length s.ck, .string n.text]] w fun e w' => e = .returned (.int .i64 (cnt n)) ∧ Below w.heap.size w w' := by
  intro N
  induction N with
  | zero => intro n s w ok h0; rw [cnt_eq] at h0; omega
  | succ N ih =>
  rintro n ⟨Ad, cd, Aa, ca, Ak, ck⟩ w ok hN hbig hn
  have hcnt := cnt_eq n
  have hrow : Row Kd.node w ok Ak n.kids := hn.kids
  have hmax := hrow.max
  have hmaxA := hn.attrs.max
  have hck : n.kids.length ≤ ck := hn.ck
  clear hn
  simp only
  go_enter Tryz.func127, Tryz.ntmps127
  obtain ⟨W, hW, HB, hsz, HG⟩ := boxed w #[.int .i64 n.kind, .string n.pre, .string n.loc, .string n.uri, .slice Ad n.decls.length cd, .slice Aa n.attrs.length ca, .slice Ak n.kids.length ck, .string n.text] 28
  have HW := Aside0.mk hW
  clear hW
  obtain ⟨_, _, _, _, _, c5, c6, _⟩ := box_cells HG
  clear HG
  have rowW := hrow.below HB
  go_wp2
  rw [← HW.out]
  go_loopg [3, 4] n.kids.length (fun k s' t wr => ∃ j : Nat, s' = .int .i64 ((1 + n.attrs.length + cntL (n.kids.take j) : Nat) : Int) ∧ t = .int .i64 j ∧ j + k = n.kids.length ∧ Below W.heap.size W wr)
  case atStart => exact ⟨0, by simp [cntL], rfl, by omega, Below.refl _ _⟩
  case round =>
    obtain ⟨j, rfl, rfl, hjk, hbr⟩ := hrel
    obtain ⟨hc1, hf1⟩ := bcell hbr
    have k5 := (hc1 w.heap.size 5 hsz).trans c5
    have k6 := (hc1 w.heap.size 6 hsz).trans c6
    by_cases hj : j < n.kids.length
    · have hle := cntL_take n.kids j hj
      have hle2 := cntL_le n.kids (j + 1)
      obtain ⟨b, o, s', rfl, hb, hs', d0, d1, d2, d3, d4, d5, d6, d7⟩ := node_at (rowW.below hbr) j hj
      go_wp2_with fail
      refine (ih _ s' wr ok (by omega) (by omega) hs').mono ?_
      rintro e w2 ⟨rfl, hb2⟩
      go_wp2
      go_roundg (gk - 1)
      case measure => omega
      case rel => exact ⟨j + 1, by go_num, by go_num, by omega, below_then hbr hb2⟩
    · go_wp2
      go_ret
      have hj' : j = n.kids.length := by omega
      exact ⟨by rw [hcnt, hj', List.take_length]; rfl, below_then HB hbr⟩
theorem implCountOf_calls : ∀ (N : Nat) (n : Nd) (s : Sh) (w : World) (ok : Nat → Prop), cnt n ≤ N → cnt n ≤ 1099511627776 → NodeIs w ok n s →
    Calls Tryz.prog 112 #[.agg #[.int .i64 n.kind, .string n.pre, .string n.loc, .string n.uri, .slice s.Ad n.decls.length s.cd, .slice s.Aa n.attrs.length s.ca, .slice s.Ak n.kids.length s.ck, .string n.text]] w fun e w' => e = .returned (.int .i64 (cnt n)) ∧ Below w.heap.size w w' := by
  intro N
  induction N with
  | zero => intro n s w ok h0; rw [cnt_eq] at h0; omega
  | succ N ih =>
  rintro n ⟨Ad, cd, Aa, ca, Ak, ck⟩ w ok hN hbig hn
  have hcnt := cnt_eq n
  have hrow : Row Kd.node w ok Ak n.kids := hn.kids
  have hmax := hrow.max
  have hmaxA := hn.attrs.max
  have hck : n.kids.length ≤ ck := hn.ck
  clear hn
  simp only
  go_enter Tryz.func112, Tryz.ntmps112
  obtain ⟨W, hW, HB, hsz, HG⟩ := boxed w #[.int .i64 n.kind, .string n.pre, .string n.loc, .string n.uri, .slice Ad n.decls.length cd, .slice Aa n.attrs.length ca, .slice Ak n.kids.length ck, .string n.text] 28
  have HW := Aside0.mk hW
  clear hW
  obtain ⟨_, _, _, _, _, c5, c6, _⟩ := box_cells HG
  clear HG
  have rowW := hrow.below HB
  go_wp2
  rw [← HW.out]
  go_loopg [3, 13] n.kids.length (fun k s' t wr => ∃ j : Nat, s' = .int .i64 ((1 + n.attrs.length + cntL (n.kids.take j) : Nat) : Int) ∧ t = .int .i64 j ∧ j + k = n.kids.length ∧ Below W.heap.size W wr)
  case atStart => exact ⟨0, by simp [cntL], rfl, by omega, Below.refl _ _⟩
  case round =>
    obtain ⟨j, rfl, rfl, hjk, hbr⟩ := hrel
    obtain ⟨hc1, hf1⟩ := bcell hbr
    have k5 := (hc1 w.heap.size 5 hsz).trans c5
    have k6 := (hc1 w.heap.size 6 hsz).trans c6
    by_cases hj : j < n.kids.length
    · have hle := cntL_take n.kids j hj
      have hle2 := cntL_le n.kids (j + 1)
      obtain ⟨b, o, s', rfl, hb, hs', d0, d1, d2, d3, d4, d5, d6, d7⟩ := node_at (rowW.below hbr) j hj
      go_wp2_with fail
      refine (ih _ s' _ ok (by omega) (by omega) (hs'.below (below_alloc (Below.refl _ _) _))).mono ?_
      rintro e w2 ⟨rfl, hb2⟩
      go_wp2
      go_roundg (gk - 1)
      case measure => omega
      case rel => exact ⟨j + 1, by go_num, by go_num, by omega, below_then (below_alloc hbr _) hb2⟩
    · go_wp2
      go_ret
      have hj' : j = n.kids.length := by omega
      exact ⟨by rw [hcnt, hj', List.take_length]; rfl, below_then HB hbr⟩
end Go.Proofs.YtpcklgkpjmmakaaGreatDoor
