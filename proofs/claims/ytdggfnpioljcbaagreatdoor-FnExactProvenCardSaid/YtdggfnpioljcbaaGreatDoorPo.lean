/- The walks of ProofOk: program and reference; what the law copies and compares. -/
import Derived.Test.YtdggfnpioljcbaaGreatDoorSumOf
import Derived.Test.YtdggfnpioljcbaaGreatDoorProg
import Derived.WalkKit
import Derived.WalkLawsBesides
import Derived.WalkSpells
import Derived.Deep.LoopGhost
import Derived.Deep.QuietTactic
import Derived.BigQuiet
import Derived.Outline
import Derived.Shelf.Abstract
import Derived.Deep.RegionHeld3
namespace Go.Proofs.YtdggfnpioljcbaaGreatDoor
open Go.RowKit
set_option linter.unusedVariables false
set_option linter.unusedSimpArgs false

def Sz (l r : Int) (p : Prop) : Prop := 0 ≤ r → r ≤ l ∧ p

theorem szIntS_calls (A : Option Addr) (n c : Nat) (l : Int) (w : World) (hn : n ≤ 9223372036854775807) (h0 : 0 ≤ l) (h1 : l ≤ 1048576) :
    Calls Tryz.prog 98 #[.slice A n c, .int .i64 l] w fun e w' => (∃ r, e = .returned (.int .i64 r) ∧ Sz l r (n ≤ 1048576)) ∧ w = w' := by
  by_cases hl : (n : Int) ≤ l
  · have hs : Sz l (l - n) (n ≤ 1048576) := fun _ => ⟨by omega, by omega⟩
    go_enter Tryz.func98, Tryz.ntmps98
    go_wp2
    go_ret
    exact ⟨⟨_, rfl, hs⟩, rfl⟩
  · have hs : Sz l (-1) (n ≤ 1048576) := fun h => by omega
    go_enter Tryz.func98, Tryz.ntmps98
    go_wp2
    go_ret
    exact ⟨⟨_, rfl, hs⟩, rfl⟩

theorem szIntSS_calls {ok : Nat → Prop} (A : Option Addr) (xs : List (List Int)) (c : Nat) (l : Int) (w : World) (hr : Row (Kd.slice (Kd.int .i64)) w ok A xs) (h0 : 0 ≤ l) (h1 : l ≤ 1048576) :
    Calls Tryz.prog 99 #[.slice A xs.length c, .int .i64 l] w fun e w' => (∃ r, e = .returned (.int .i64 r) ∧ Sz l r (xs.length ≤ 1048576 ∧ ∀ y ∈ xs, y.length ≤ 1048576)) ∧ w = w' := by
  have hm := hr.max
  by_cases hl : (xs.length : Int) ≤ l
  · go_enter Tryz.func99, Tryz.ntmps99
    go_wp2
    go_loopg [1, 5] xs.length (fun k t i wr => ∃ (j : Nat) (t' : Int), i = .int .i64 j ∧ t = .int .i64 t' ∧ 0 ≤ t' ∧ t' ≤ l ∧ j + k = xs.length ∧ Aside (∀ y ∈ xs.take j, y.length ≤ 1048576) ∧ w = wr)
    case atStart => exact ⟨0, _, rfl, rfl, by omega, by omega, by omega, (fun y hy => by simp at hy), rfl⟩
    case round =>
      obtain ⟨j, t', rfl, rfl, ht0, ht1, hk, ha, rfl⟩ := hrel
      by_cases hlt : j < xs.length
      · obtain ⟨b, o, A0, c0, rfl, hb, h0, l0, g0⟩ := slice_at hr j hlt
        have hg := g0.max
        clear hr
        go_wp2_with (go_at_call 98; refine (szIntS_calls _ _ _ _ _ hg (by omega) (by omega)).mono ?_; rintro e w1 ⟨⟨r, rfl, hs⟩, rfl⟩)
        · go_ret
          exact ⟨⟨_, rfl, fun h => by omega⟩, rfl⟩
        · go_roundg (gk - 1)
          case measure => omega
          case rel =>
            have hs2 := hs (by omega)
            exact ⟨j + 1, _, by go_num, rfl, by omega, by omega, by omega, (fun y hy => by
              rw [List.take_succ_eq_append_getElem hlt, List.mem_append, List.mem_singleton] at hy
              rcases hy with hy | rfl
              · exact ha.out y hy
              · exact hs2.2), rfl⟩
      · obtain rfl : j = xs.length := by omega
        have ha2 := ha.out
        rw [List.take_length] at ha2
        have hs : Aside (Sz l t' (xs.length ≤ 1048576 ∧ ∀ y ∈ xs, y.length ≤ 1048576)) := fun _ => ⟨by omega, by omega, ha2⟩
        clear ha2 ha
        go_wp2
        go_ret
        exact ⟨⟨_, rfl, hs.out⟩, rfl⟩
  · have hs : Sz l (-1) (xs.length ≤ 1048576 ∧ ∀ y ∈ xs, y.length ≤ 1048576) := fun h => by omega
    go_enter Tryz.func99, Tryz.ntmps99
    go_wp2
    go_ret
    exact ⟨⟨_, rfl, hs⟩, rfl⟩

theorem szProof_calls {ok : Nat → Prop} (A B : Option Addr) (n c c' : Nat) (xs : List (List Int)) (l : Int) (w : World) (hn : n ≤ 9223372036854775807) (hr : Row (Kd.slice (Kd.int .i64)) w ok B xs) (h0 : 0 ≤ l) (h1 : l ≤ 1048576) :
    Calls Tryz.prog 27 #[.agg #[.slice A n c, .slice B xs.length c'], .int .i64 l] w fun e w' => (∃ r, e = .returned (.int .i64 r) ∧ Sz l r (n ≤ 1048576 ∧ xs.length ≤ 1048576 ∧ ∀ y ∈ xs, y.length ≤ 1048576)) ∧ Below w.heap.size w w' := by
  go_enter Tryz.func27, Tryz.ntmps27
  go_wp2_with (first
    | (go_at_call 98; refine (szIntS_calls _ _ _ _ _ hn h0 h1).mono ?_; rintro e w1 ⟨⟨r, rfl, hs⟩, rfl⟩)
    | (go_at_call 99; refine (szIntSS_calls _ xs _ _ _ (hr.below ((Below.refl _ _).alloc (Nat.le_refl _) _)) (by omega) (by have := hs (by omega); omega)).mono ?_; rintro e w1 ⟨⟨r', rfl, hs'⟩, rfl⟩))
  all_goals (go_ret; exact ⟨⟨_, rfl, fun h => by first | omega | (have h1 := hs (by omega); have h2 := hs' (by omega); exact ⟨by omega, h1.2, h2.2⟩)⟩, (Below.refl _ _).alloc (Nat.le_refl _) _⟩)

theorem Tryz.info_ints : (Tryz.prog.info? 53).map (fun i => (i.zero, i.size, i.bytes)) = some (some (.slice none 0 0), 1, 24) := by kernel_rfl

theorem toIntS_calls {ok : Nat → Prop} (A : Option Addr) (xs : List Int) (c : Nat) (w : World) (hr : Row (Kd.int .i64) w ok A xs) (hn : xs.length ≤ 1048576) :
    Calls Tryz.prog 29 #[.slice A xs.length c] w fun e w' => (∃ A' c', e = .returned (.slice A' xs.length c') ∧ Own (Kd.int .i64) 3 w' w.heap.size (fun k => w.heap.size ≤ k) (.slice A' xs.length c') xs) ∧ Below w.heap.size w w' := by
  obtain ⟨i, hi, hz0, hz1, hz2⟩ := info_parts Tryz.info_int
  go_enter Tryz.func29, Tryz.ntmps29
  go_wp2_with (at_make; refine wpList_make_full _ rfl _ _ 53 rfl w.heap.size 3 i (.int .i64 0) 1 Tryz.underlying53 hi hz0 hz1 _ _ _ _ xs.length rfl rfl rfl rfl (by rw [hz2]; omega) (by unfold maxLen; omega) (Nat.le_refl _) ?_; intro w1 hown hgrow)
  go_loopg [4] xs.length (fun k i wr => ∃ (j : Nat) (cells : List Value), i = .int .i64 j ∧ j + k = xs.length ∧ wr.ownsRow w.heap.size 3 1 (.slice (some ⟨w.heap.size, 0, none⟩) xs.length xs.length) xs.length cells ∧ Aside (Fill (Kd.int .i64) wr (fun k => w.heap.size < k) xs j cells) ∧ Below w.heap.size w wr)
  case atStart => exact ⟨0, _, rfl, by omega, hown, Fill.start _ _ _ (by rw [hown.1]; omega), (Below.refl _ _).grown hgrow (Nat.le_refl _) (by simp)⟩
  case round =>
    obtain ⟨j, cells, rfl, hk, hown1, hf, hb⟩ := hrel
    clear hown hgrow
    by_cases hlt : j < xs.length
    · obtain ⟨b, o, rfl, hbl, h0⟩ := int_at (hr.below hb) j hlt
      have hcl := hown1.cellAt j (by omega)
      have hx : j < cells.length := by rw [hf.out.1]; exact hlt
      rw [List.getElem?_eq_getElem hx] at hcl
      have hfr := hown1.frozenAt j
      have hst := hown1.stored j (.int .i64 xs[j])
      have hf2 := (hf.out.agree (w1 := wr.setCell ⟨w.heap.size, j, none⟩ (.int .i64 xs[j])) (fun k hk _ => Below.heap_setCell _ _ _ _ (by simp; omega))).step hlt (u := .int .i64 xs[j]) rfl
      have HS := Aside0.mk hst
      clear hr hst
      go_wp2
      go_roundg (gk - 1)
      case measure => omega
      case rel => exact ⟨j + 1, _, by go_num, by omega, HS.out.1, hf2, below_setNew hb (Nat.le_refl _)⟩
    · have hf2 := hf.out.done (by omega) rfl
      have HO : Own (Kd.int .i64) 3 wr w.heap.size (fun k => w.heap.size ≤ k) (.slice (some ⟨w.heap.size, 0, none⟩) xs.length xs.length) xs := ⟨cells, hown1, hf2.mono (fun _ h => Nat.le_of_lt h)⟩
      clear hf hf2 hown1
      go_wp2
      go_ret
      exact ⟨⟨_, _, rfl, HO⟩, hb⟩

theorem toIntSS_calls {ok : Nat → Prop} (A : Option Addr) (xs : List (List Int)) (c : Nat) (w : World) (hr : Row (Kd.slice (Kd.int .i64)) w ok A xs) (hn : xs.length ≤ 1048576) (hn2 : ∀ y ∈ xs, y.length ≤ 1048576) :
    Calls Tryz.prog 101 #[.slice A xs.length c] w fun e w' => (∃ A' c', e = .returned (.slice A' xs.length c') ∧ Own (Kd.slice (Kd.int .i64)) 53 w' w.heap.size (fun k => w.heap.size ≤ k) (.slice A' xs.length c') xs) ∧ Below w.heap.size w w' := by
  obtain ⟨i, hi, hz0, hz1, hz2⟩ := info_parts Tryz.info_ints
  go_enter Tryz.func101, Tryz.ntmps101
  go_wp2_with (at_make; refine wpList_make_full _ rfl _ _ 54 rfl w.heap.size 53 i (.slice none 0 0) 1 Tryz.underlying54 hi hz0 hz1 _ _ _ _ xs.length rfl rfl rfl rfl (by rw [hz2]; omega) (by unfold maxLen; omega) (Nat.le_refl _) ?_; intro w1 hown hgrow)
  go_loopg [4] xs.length (fun k i wr => ∃ (j : Nat) (cells : List Value), i = .int .i64 j ∧ j + k = xs.length ∧ wr.ownsRow w.heap.size 53 1 (.slice (some ⟨w.heap.size, 0, none⟩) xs.length xs.length) xs.length cells ∧ Aside (Fill (Kd.slice (Kd.int .i64)) wr (fun k => w.heap.size < k) xs j cells) ∧ Below w.heap.size w wr ∧ w.heap.size < wr.heap.size)
  case atStart => exact ⟨0, _, rfl, by omega, hown, Fill.start _ _ _ (by rw [hown.1]; omega), (Below.refl _ _).grown hgrow (Nat.le_refl _) (by simp), (hown.lt _ rfl).2⟩
  case round =>
    obtain ⟨j, cells, rfl, hk, hown1, hf, hb, hsz⟩ := hrel
    clear hown hgrow
    by_cases hlt : j < xs.length
    · obtain ⟨b, o, A0, c0, rfl, hbl, h0, l0, g0⟩ := slice_at (hr.below hb) j hlt
      have hy := hn2 _ (List.getElem_mem hlt)
      clear hr
      go_wp2_with (go_at_call 29; refine (toIntS_calls _ _ _ _ g0 hy).mono ?_; rintro e w2 ⟨⟨A1, c1, rfl, ho⟩, hb2⟩; have hown2 := own_below hown1 hb2; obtain ⟨⟨u, hu⟩, hfr⟩ := fill_cell hown2 hlt)
      have hst := hown2.stored j (.slice A1 xs[j].length c1)
      obtain ⟨_, _, he, hl1, hr1⟩ := ho.row (ok' := fun k => w.heap.size < k) (fun k hk => by omega) (fun k hk => by have := ho.base_le k hk; omega)
      cases he
      have hf2 := ((hf.out.agree (fun k _ hk => hb2.block k hk)).step hlt (u := .slice A1 xs[j].length c1) ⟨A1, c1, rfl, hl1, hr1⟩).agree (w1 := w2.setCell ⟨w.heap.size, j, none⟩ (.slice A1 xs[j].length c1)) (fun k hk _ => Below.heap_setCell _ _ _ _ (by simp; omega))
      go_roundg (gk - 1)
      case measure => omega
      case rel => exact ⟨j + 1, _, by go_num, by omega, hst.1, hf2, below_setNew (below_then hb hb2) (Nat.le_refl _), by have := hb2.size; simp [World.setCell]; omega⟩
    · have hf2 := hf.out.done (by omega) rfl
      have HO : Own (Kd.slice (Kd.int .i64)) 53 wr w.heap.size (fun k => w.heap.size ≤ k) (.slice (some ⟨w.heap.size, 0, none⟩) xs.length xs.length) xs := ⟨cells, hown1, hf2.mono (fun _ h => Nat.le_of_lt h)⟩
      clear hf hf2 hown1
      go_wp2
      go_ret
      exact ⟨⟨_, _, rfl, HO⟩, hb⟩

theorem toProof_calls {ok ok2 : Nat → Prop} (A B : Option Addr) (own : List Int) (kids : List (List Int)) (c c' : Nat) (w : World) (h1 : Row (Kd.int .i64) w ok A own) (h2 : Row (Kd.slice (Kd.int .i64)) w ok2 B kids)
    (hn : own.length ≤ 1048576) (hn1 : kids.length ≤ 1048576) (hn2 : ∀ y ∈ kids, y.length ≤ 1048576) :
    Calls Tryz.prog 30 #[.agg #[.slice A own.length c, .slice B kids.length c']] w fun e w' =>
      (∃ A1 c1 B1 d1, e = .returned (.agg #[.slice A1 own.length c1, .slice B1 kids.length d1]) ∧ Row (Kd.int .i64) w' (fun k => w.heap.size ≤ k) A1 own ∧ Row (Kd.slice (Kd.int .i64)) w' (fun k => w.heap.size ≤ k) B1 kids) ∧ Below w.heap.size w w' := by
  go_enter Tryz.func30, Tryz.ntmps30
  go_wp2_with (first
    | (go_at_call 29; refine (toIntS_calls _ _ _ _ (h1.below (by repeat (first | exact Below.refl _ _ | assumption | apply below_alloc | apply below_drew | (refine below_setNew ?_ (by omega))))) hn).mono ?_; rintro e w1 ⟨⟨A1, c1, rfl, ho1⟩, hb1⟩; have HB1 : Below w.heap.size w w1 := below_then (by repeat (first | exact Below.refl _ _ | assumption | apply below_alloc | apply below_drew | (refine below_setNew ?_ (by omega)))) hb1; obtain ⟨hc1, hf1⟩ := bcell hb1; have hz1 := hb1.size; simp at hz1)
    | fail)
  refine (toIntSS_calls _ _ _ _ (h2.below ?hq) hn1 hn2).mono ?_
  case hq =>
    refine below_setNew ?_ (by omega)
    assumption
  rintro e w2 ⟨⟨B1, d1, rfl, ho2⟩, hb2⟩
  have HB2 : Below w.heap.size w w2 := below_then ?hq2 hb2
  case hq2 =>
    refine below_setNew ?_ (by omega)
    assumption
  obtain ⟨hc2, hf2⟩ := bcell hb2
  have hza : w.heap.size + 1 + 1 < w1.heap.size := by omega
  have hzb : w.heap.size + 1 < w1.heap.size := by omega
  have hzc : w.heap.size < w1.heap.size := by omega
  go_wp2
  obtain ⟨_, _, he, _, r1⟩ := ho1.row (ok' := fun k => w.heap.size + 3 ≤ k) (fun k hk => by simp at hk; omega) (fun k hk => by have := ho1.base_le k hk; simp at this; omega)
  cases he
  obtain ⟨_, _, he, _, r2⟩ := ho2.row (ok' := fun k => w.heap.size + 3 ≤ k) (fun k hk => by simp at hk; omega) (fun k hk => by have := ho2.base_le k hk; simp at this; omega)
  cases he
  have q1 := (((((r1.set (fun k hk => by simp; omega)).below hb2).set (p := ⟨w.heap.size + 1 + 1, 1, none⟩) (u := .slice B1 kids.length d1) (fun k hk => by simp; omega)).set (p := ⟨w.heap.size + 1, 0, none⟩) (u := .slice A1 own.length c1) (fun k hk => by simp; omega)).set (p := ⟨w.heap.size + 1, 1, none⟩) (u := .slice B1 kids.length d1) (fun k hk => by simp; omega)).mono (ok' := fun k => w.heap.size ≤ k) (fun k hk => by omega)
  have q2 := (((r2.set (p := ⟨w.heap.size + 1 + 1, 1, none⟩) (u := .slice B1 kids.length d1) (fun k hk => by simp; omega)).set (p := ⟨w.heap.size + 1, 0, none⟩) (u := .slice A1 own.length c1) (fun k hk => by simp; omega)).set (p := ⟨w.heap.size + 1, 1, none⟩) (u := .slice B1 kids.length d1) (fun k hk => by simp; omega)).mono (ok' := fun k => w.heap.size ≤ k) (fun k hk => by omega)
  refine bodyPost_ret (v := .agg #[.slice A1 own.length c1, .slice B1 kids.length d1]) ?hres rfl ⟨⟨_, _, _, _, rfl, q1, q2⟩, below_setNew (below_setNew (below_setNew HB2 (by omega)) (by omega)) (by omega)⟩
  case hres => simp [results, Tryz.results30, go_sem, hc1, hc2, hza, hzb, hzc, hz1]

theorem eqIntS_same {ok ok2 : Nat → Prop} (A B : Option Addr) (xs : List Int) (c c' : Nat) (w : World) (h1 : Row (Kd.int .i64) w ok A xs) (h2 : Row (Kd.int .i64) w ok2 B xs) :
    Calls Tryz.prog 32 #[.slice A xs.length c, .slice B xs.length c'] w fun e w' => e = .returned (.bool true) ∧ Drawn w w' := by
  have hm := h1.max
  go_enter Tryz.func32, Tryz.ntmps32
  go_wp2
  go_loopg [5] xs.length (fun k i wr => ∃ (j : Nat), i = .int .i64 j ∧ j + k = xs.length ∧ Drawn w wr)
  case atStart => exact ⟨0, rfl, by omega, Drawn.refl _⟩
  case round =>
    obtain ⟨j, rfl, hk, hd⟩ := hrel
    by_cases hlt : j < xs.length
    · obtain ⟨b, o, rfl, hb, e1⟩ := int_at (h1.below hd.below) j hlt
      obtain ⟨b', o', rfl, hb', e2⟩ := int_at (h2.below hd.below) j hlt
      clear h1 h2
      go_wp2
      go_quiet (fail)
      go_wp2
      go_roundg (gk - 1)
      case measure => omega
      case rel => exact ⟨j + 1, by go_num, by omega, hd.trans (Drawn.of _ _)⟩
    · go_wp2
      go_ret
      exact ⟨rfl, hd⟩

theorem eqIntSS_same {ok ok2 : Nat → Prop} (A B : Option Addr) (xs : List (List Int)) (c c' : Nat) (w : World) (h1 : Row (Kd.slice (Kd.int .i64)) w ok A xs) (h2 : Row (Kd.slice (Kd.int .i64)) w ok2 B xs) :
    Calls Tryz.prog 103 #[.slice A xs.length c, .slice B xs.length c'] w fun e w' => e = .returned (.bool true) ∧ Drawn w w' := by
  have hm := h1.max
  go_enter Tryz.func103, Tryz.ntmps103
  go_wp2
  go_loopg [5] xs.length (fun k i wr => ∃ (j : Nat), i = .int .i64 j ∧ j + k = xs.length ∧ Drawn w wr)
  case atStart => exact ⟨0, rfl, by omega, Drawn.refl _⟩
  case round =>
    obtain ⟨j, rfl, hk, hd⟩ := hrel
    by_cases hlt : j < xs.length
    · obtain ⟨b, o, A1, c1, rfl, hb, e1, _, g1⟩ := slice_at (h1.below hd.below) j hlt
      obtain ⟨b', o', A2, c2, rfl, hb', e2, _, g2⟩ := slice_at (h2.below hd.below) j hlt
      clear h1 h2
      go_wp2
      go_quiet ((go_at_call 32; exact Calls.quiet_of (eqIntS_same _ _ _ _ _ _ (g1.drewN _) (g2.drewN _))))
      go_wp2
      go_roundg (gk - 1)
      case measure => omega
      case rel => exact ⟨j + 1, by go_num, by omega, hd.trans (Drawn.of _ _)⟩
    · go_wp2
      go_ret
      exact ⟨rfl, hd⟩

theorem eqProof_same {o1 o2 o3 o4 : Nat → Prop} (A B C D : Option Addr) (own : List Int) (kids : List (List Int)) (c c1 c2 c3 : Nat) (w : World) (h1 : Row (Kd.int .i64) w o1 A own) (h2 : Row (Kd.slice (Kd.int .i64)) w o2 B kids) (h3 : Row (Kd.int .i64) w o3 C own) (h4 : Row (Kd.slice (Kd.int .i64)) w o4 D kids) :
    Calls Tryz.prog 33 #[.agg #[.slice A own.length c, .slice B kids.length c1], .agg #[.slice C own.length c2, .slice D kids.length c3]] w fun e w' => e = .returned (.bool true) ∧ Below w.heap.size w w' := by
  go_enter Tryz.func33, Tryz.ntmps33
  go_wp2_with fail
  have HB : Below w.heap.size w ((w.alloc (.cells #[.slice A own.length c, .slice B kids.length c1] 60)).alloc (.cells #[.slice C own.length c2, .slice D kids.length c3] 60)) := below_alloc (below_alloc (Below.refl _ _) _) _
  refine (eqIntS_same _ _ _ _ _ _ (h1.below HB) (h3.below HB)).mono ?_
  rintro e w1 ⟨rfl, hd⟩
  have HB1 := below_then HB hd.below
  obtain ⟨hc1, hf1⟩ := bcell hd.below
  go_wp2_with fail
  refine (eqIntSS_same _ _ _ _ _ _ (h2.below HB1) (h4.below HB1)).mono ?_
  rintro e w2 ⟨rfl, hd2⟩
  have HB2 := below_then HB1 hd2.below
  go_wp2
  go_ret
  exact ⟨rfl, HB2⟩

/-! ### the reference's and the program's -/
def sumB (n : Int) : Bool := decide (0 ≤ n) && decide (n ≤ 4294967295)
def proofOkB (own : List Int) (kids : List (List Int)) : Bool := decide (own.length = kids.length) && (decide (own.length ≤ 8) && (own.all sumB && kids.all fun k => decide (k.length ≤ 60) && k.all sumB))

theorem sumOk_calls (x : Int) (w : World) : Calls Tryz.prog 126 #[.int .i64 x] w fun e w' => e = .returned (.bool (sumB x)) ∧ w = w' := by
  go_enter Tryz.func126, Tryz.ntmps126
  go_wp2_with (go_at_call 88; refine (in_calls _ _ _ _).mono ?_; rintro e w1 ⟨rfl, rfl⟩)
  all_goals (go_ret; exact ⟨rfl, rfl⟩)
theorem proofOk1_calls (x : Int) (w : World) : Calls Tryz.prog 125 #[.int .i64 x] w fun e w' => e = .returned (.bool (!sumB x)) ∧ w = w' := by
  go_enter Tryz.func125, Tryz.ntmps125
  go_wp2_with (go_at_call 126; refine (sumOk_calls _ _).mono ?_; rintro e w1 ⟨rfl, rfl⟩)
  all_goals (go_ret; exact ⟨rfl, rfl⟩)
theorem proofOk2_calls (x : Int) (w : World) : Calls Tryz.prog 127 #[.int .i64 x] w fun e w' => e = .returned (.bool (!sumB x)) ∧ w = w' := by
  go_enter Tryz.func127, Tryz.ntmps127
  go_wp2_with (go_at_call 126; refine (sumOk_calls _ _).mono ?_; rintro e w1 ⟨rfl, rfl⟩)
  all_goals (go_ret; exact ⟨rfl, rfl⟩)

theorem IndexFunc_int {ok : Nat → Prop} (p : Int → Bool) (g : Nat) (lb : Array Value) (eg : ∀ args w, (callFunc g args).run Tryz.prog w = .ok (.enter g args) w) (A : Option Addr) (xs : List Int) (c : Nat) (w : World)
    (h : Row (Kd.int .i64) w ok A xs) (hp : ∀ W x, Below w.heap.size w W → Calls Tryz.prog g (#[.int .i64 x] ++ lb) W fun e w' => e = .returned (.bool (p x)) ∧ Below W.heap.size W w') :
    Calls Tryz.prog 194 #[.slice A xs.length c, .func (.func g) #[] lb] w fun e w' => e = .returned (.int .i64 (idxB p xs)) ∧ Below w.heap.size w w' := by
  have hm := h.max
  go_enter Tryz.func194, Tryz.ntmps194
  go_wp2
  go_loopg [5, 8] xs.length (fun k _ i wr => ∃ (j : Nat), i = .int .i64 j ∧ j + k = xs.length ∧ Aside (∀ y ∈ xs.take j, p y = false) ∧ Below w.heap.size w wr)
  case atStart => exact ⟨0, rfl, by omega, (fun y hy => by simp at hy), Below.refl _ _⟩
  case round =>
    obtain ⟨j, rfl, hk, ha, hb⟩ := hrel
    by_cases hlt : j < xs.length
    · obtain ⟨b, o, rfl, hbl, e1⟩ := int_at (h.below hb) j hlt
      have hcall := hp wr xs[j] hb
      clear h hp
      cases hq : p xs[j] with
      | true =>
        have hfin := Aside0.mk (idxB_hit p xs j hlt ha.out hq)
        rw [hq] at hcall
        clear hq
        go_wp2_with (go_at_fn g; refine hcall.mono ?_; rintro e w' ⟨rfl, hb'⟩)
        go_ret
        exact ⟨by rw [hfin.out]; rfl, below_then hb hb'⟩
      | false =>
        have hfin := Aside0.mk (take_miss hlt ha.out hq)
        rw [hq] at hcall
        clear hq
        go_wp2_with (go_at_fn g; refine hcall.mono ?_; rintro e w' ⟨rfl, hb'⟩)
        go_roundg (gk - 1)
        case measure => omega
        case rel => exact ⟨j + 1, by go_num, by omega, hfin.out, below_then hb hb'⟩
    · obtain rfl : j = xs.length := by omega
      have hfin := Aside0.mk (idxB_miss p xs (by have := ha.out; rwa [List.take_length] at this))
      clear ha
      go_wp2
      go_ret
      exact ⟨by rw [hfin.out]; rfl, hb⟩
theorem ContainsFunc_int {ok : Nat → Prop} (p : Int → Bool) (g : Nat) (lb : Array Value) (eg : ∀ args w, (callFunc g args).run Tryz.prog w = .ok (.enter g args) w) (A : Option Addr) (xs : List Int) (c : Nat) (w : World)
    (h : Row (Kd.int .i64) w ok A xs) (hp : ∀ W x, Below w.heap.size w W → Calls Tryz.prog g (#[.int .i64 x] ++ lb) W fun e w' => e = .returned (.bool (p x)) ∧ Below W.heap.size W w') :
    Calls Tryz.prog 124 #[.slice A xs.length c, .func (.func g) #[] lb] w fun e w' => e = .returned (.bool (xs.any p)) ∧ Below w.heap.size w w' := by
  rw [← idxB_any]
  go_enter Tryz.func124, Tryz.ntmps124
  go_wp2_with (go_at_call 194; refine (IndexFunc_int p g lb eg _ _ _ _ h hp).mono ?_; rintro e w1 ⟨rfl, hb⟩)
  go_ret
  exact ⟨rfl, hb⟩

theorem po_own {own : List Int} {kids : List (List Int)} {j : Nat} (hj : j < own.length) (h : sumB (own[j]'hj) = false) : proofOkB own kids = false := by
  have : own.all sumB = false := by rw [List.all_eq_false]; exact ⟨_, List.getElem_mem hj, by simp [h]⟩
  simp [proofOkB, this]
theorem po_kid {own : List Int} {kids : List (List Int)} {j : Nat} (hj : j < kids.length) (h : (decide ((kids[j]'hj).length ≤ 60) && (kids[j]'hj).all sumB) = false) : proofOkB own kids = false := by
  have : (kids.all fun k => decide (k.length ≤ 60) && k.all sumB) = false := by rw [List.all_eq_false]; exact ⟨_, List.getElem_mem hj, by simp only [h]; simp⟩
  simp only [proofOkB, this]; simp
theorem po_good {own : List Int} {kids : List (List Int)} (hl : own.length = kids.length) (h8 : own.length ≤ 8) (h1 : ∀ x ∈ own, sumB x = true) (h2 : ∀ k ∈ kids, (decide (k.length ≤ 60) && k.all sumB) = true) : proofOkB own kids = true := by
  have e1 : own.all sumB = true := List.all_eq_true.2 h1
  have e2 : (kids.all fun k => decide (k.length ≤ 60) && k.all sumB) = true := List.all_eq_true.2 h2
  simp only [proofOkB, e1, e2]; simp [hl]; omega
theorem kid_item {k : List Int} {m : Nat} (hm : m < k.length) (h : sumB (k[m]'hm) = false) : (decide (k.length ≤ 60) && k.all sumB) = false := by
  have : k.all sumB = false := by rw [List.all_eq_false]; exact ⟨_, List.getElem_mem hm, by simp [h]⟩
  simp [this]

theorem specProofOk_calls {ok ok2 : Nat → Prop} (A B : Option Addr) (own : List Int) (kids : List (List Int)) (c c' : Nat) (w : World) (h1 : Row (Kd.int .i64) w ok A own) (h2 : Row (Kd.slice (Kd.int .i64)) w ok2 B kids) :
    Calls Tryz.prog 58 #[.agg #[.slice A own.length c, .slice B kids.length c']] w fun e w' => e = .returned (.bool (proofOkB own kids)) ∧ Below w.heap.size w w' := by
  have hm1 := h1.max
  have hm2 := h2.max
  have HB : Below w.heap.size w (w.alloc (.cells #[.slice A own.length c, .slice B kids.length c'] 60)) := below_alloc (Below.refl _ _) _
  have k1 := h1.below HB
  have k2 := h2.below HB
  clear h1 h2
  by_cases hl : own.length = kids.length
  · by_cases h8 : own.length ≤ 8
    · have hl' := Aside0.mk hl
      have hll : ((own.length : Int) != (kids.length : Int)) = false := by simp [hl]
      have h88 : decide ((8 : Int) < (own.length : Int)) = false := by simp; omega
      clear hl
      go_enter Tryz.func58, Tryz.ntmps58
      go_wp2
      go_loopg [3, 4] own.length (fun k i _ wr => ∃ (j : Nat), i = .int .i64 j ∧ j + k = own.length ∧ Aside ((∀ x ∈ own.take j, sumB x = true) ∧ ∀ k ∈ kids.take j, (decide (k.length ≤ 60) && k.all sumB) = true) ∧ wr = w.alloc (.cells #[.slice A own.length c, .slice B kids.length c'] 60))
      case atStart => exact ⟨0, rfl, by omega, ⟨fun x hx => by simp at hx, fun x hx => by simp at hx⟩, rfl⟩
      case round =>
        obtain ⟨j, rfl, hk, ha, rfl⟩ := hrel
        by_cases hlt : j < own.length
        · have hlt2 : j < kids.length := by have := hl'.out; omega
          obtain ⟨b, o, rfl, hbl, e1⟩ := int_at k1 j hlt
          obtain ⟨b2, o2, A2, c2, rfl, hbl2, e2, _, g2⟩ := slice_at k2 j hlt2
          have hg2 := g2.max
          clear k1 k2
          cases hq : sumB own[j] with
          | false =>
            have hfin := Aside0.mk (po_own (kids := kids) hlt hq)
            have hq' : (decide (0 ≤ own[j]) && decide (own[j] ≤ 4294967295)) = false := hq
            clear hq
            go_wp2_with fail
            refine (l1In_calls _ _ _ _).mono ?_
            rintro e w1 ⟨rfl, rfl⟩
            rw [hq']
            go_wp2
            go_ret
            exact ⟨by rw [hfin.out]; rfl, HB⟩
          | true =>
            have hqq := Aside0.mk hq
            have hq' : (decide (0 ≤ own[j]) && decide (own[j] ≤ 4294967295)) = true := hq
            clear hq
            by_cases h60 : kids[j].length ≤ 60
            · have h60' : decide ((60 : Int) < (kids[j].length : Int)) = false := by simp; omega
              go_wp2_with fail
              refine (l1In_calls _ _ _ _).mono ?_
              rintro e w1 ⟨rfl, rfl⟩
              rw [hq']
              go_wp2
              go_loopg [4] (kids[j]).length (fun k i wr => ∃ (m : Nat), i = .int .i64 m ∧ m + k = (kids[j]).length ∧ Aside (∀ x ∈ (kids[j]).take m, sumB x = true) ∧ wr = w.alloc (.cells #[.slice (some ⟨b, o, none⟩) own.length c, .slice (some ⟨b2, o2, none⟩) kids.length c'] 60))
              case atStart => exact ⟨0, rfl, by omega, (fun x hx => by simp at hx), rfl⟩
              case round =>
                obtain ⟨m, rfl, hk2, ha2, rfl⟩ := hrel
                by_cases hlm : m < (kids[j]).length
                · obtain ⟨b3, o3, rfl, hbl3, e3⟩ := int_at g2 m hlm
                  clear g2
                  cases hq3 : sumB (kids[j])[m] with
                  | false =>
                    have hfin := Aside0.mk (po_kid (own := own) hlt2 (kid_item hlm hq3))
                    have hq3' : (decide (0 ≤ (kids[j])[m]) && decide ((kids[j])[m] ≤ 4294967295)) = false := hq3
                    clear hq3
                    go_wp2_with fail
                    refine (l1In_calls _ _ _ _).mono ?_
                    rintro e w1 ⟨rfl, rfl⟩
                    rw [hq3']
                    go_wp2
                    go_ret
                    exact ⟨by rw [hfin.out]; rfl, HB⟩
                  | true =>
                    have hnx := Aside0.mk (take_all hlm ha2.out hq3)
                    have hq3' : (decide (0 ≤ (kids[j])[m]) && decide ((kids[j])[m] ≤ 4294967295)) = true := hq3
                    clear hq3
                    go_wp2_with fail
                    refine (l1In_calls _ _ _ _).mono ?_
                    rintro e w1 ⟨rfl, rfl⟩
                    rw [hq3']
                    go_wp2
                    go_roundg (gk - 1)
                    case measure => omega
                    case rel => exact ⟨m + 1, by go_num, by omega, hnx.out, rfl⟩
                · obtain rfl : m = (kids[j]).length := by omega
                  have hall := ha2.out
                  rw [List.take_length] at hall
                  have hnx := Aside0.mk (And.intro (take_all hlt ha.out.1 hqq.out) (take_all hlt2 ha.out.2 (by rw [List.all_eq_true.2 hall]; simp; omega)))
                  clear hall ha2 ha
                  go_wp2
                  go_roundg (own.length - (j + 1))
                  case measure => omega
                  case rel => exact ⟨j + 1, by go_num, by omega, hnx.out, rfl⟩
            · have h60' : decide ((60 : Int) < (kids[j].length : Int)) = true := by simp; omega
              have hfin := Aside0.mk (po_kid (own := own) hlt2 (by simp; omega))
              go_wp2_with fail
              refine (l1In_calls _ _ _ _).mono ?_
              rintro e w1 ⟨rfl, rfl⟩
              rw [hq']
              go_wp2
              go_ret
              exact ⟨by rw [hfin.out]; rfl, HB⟩
        · obtain rfl : j = own.length := by omega
          have hfin := Aside0.mk (po_good hl'.out h8 (by have := ha.out.1; rwa [List.take_length] at this) (by have := ha.out.2; rwa [hl'.out, List.take_length] at this))
          clear ha
          go_wp2
          go_ret
          exact ⟨by rw [hfin.out]; rfl, HB⟩
    · have hfin := Aside0.mk (show proofOkB own kids = false by simp [proofOkB, h8])
      have h88 : decide ((8 : Int) < (own.length : Int)) = true := by simp; omega
      have hll : ((own.length : Int) != (kids.length : Int)) = false := by simp [hl]
      clear hl
      go_enter Tryz.func58, Tryz.ntmps58
      go_wp2
      go_ret
      exact ⟨by rw [hfin.out]; rfl, HB⟩
  · have hfin := Aside0.mk (show proofOkB own kids = false by simp [proofOkB, hl])
    have hll : ((own.length : Int) != (kids.length : Int)) = true := by simp; omega
    go_enter Tryz.func58, Tryz.ntmps58
    go_wp2
    go_ret
    exact ⟨by rw [hfin.out]; rfl, HB⟩

theorem implProofOk_calls {ok ok2 : Nat → Prop} (A B : Option Addr) (own : List Int) (kids : List (List Int)) (c c' : Nat) (w : World) (h1 : Row (Kd.int .i64) w ok A own) (h2 : Row (Kd.slice (Kd.int .i64)) w ok2 B kids) :
    Calls Tryz.prog 54 #[.agg #[.slice A own.length c, .slice B kids.length c']] w fun e w' => e = .returned (.bool (proofOkB own kids)) ∧ Below w.heap.size w w' := by
  have hm1 := h1.max
  have hm2 := h2.max
  obtain ⟨W, hW⟩ : ∃ W, W = w.alloc (.cells #[.slice A own.length c, .slice B kids.length c'] 60) := ⟨_, rfl⟩
  have HB : Below w.heap.size w W := by rw [hW]; exact below_alloc (Below.refl _ _) _
  have hsz : w.heap.size < W.heap.size := by rw [hW]; simp
  have hx0 : W.cell? ⟨w.heap.size, 0, none⟩ = some (.slice A own.length c) := by rw [hW]; simp
  have hx1 : W.cell? ⟨w.heap.size, 1, none⟩ = some (.slice B kids.length c') := by rw [hW]; simp
  have HW := Aside0.mk hW
  clear hW
  go_enter Tryz.func54, Tryz.ntmps54
  go_wp2
  rw [← HW.out]
  go_loopg [4, 8] kids.length (fun k _ i wr => ∃ (j : Nat), i = .int .i64 j ∧ j + k = kids.length ∧ Aside (∀ k ∈ kids.take j, (decide (k.length ≤ 60) && k.all sumB) = true) ∧ Below W.heap.size W wr)
  case atStart => exact ⟨0, rfl, by omega, (fun x hx => by simp at hx), Below.refl _ _⟩
  case round =>
    obtain ⟨j, rfl, hk, ha, hb⟩ := hrel
    by_cases hlt : j < kids.length
    · obtain ⟨b2, o2, A2, c2, rfl, hbl2, e2, _, g2⟩ := slice_at (h2.below (below_then HB hb)) j hlt
      by_cases h60 : kids[j].length ≤ 60
      · have h60' : decide ((60 : Int) < (kids[j].length : Int)) = false := by simp; omega
        cases hq : kids[j].any (fun x => !sumB x) with
        | true =>
          have hfin := Aside0.mk (po_kid (own := own) hlt (by
            have : kids[j].all sumB = false := by rw [← Bool.not_eq_true', List.not_all_eq_any_not]; exact hq
            simp [this]))
          go_wp2_with fail
          refine (ContainsFunc_int (fun x => !sumB x) 125 #[] (enters_of Tryz.func125 (by kernel_rfl) rfl) _ _ _ _ g2 (fun W x _ => (proofOk1_calls x W).mono (by rintro e w' ⟨rfl, rfl⟩; exact ⟨rfl, Below.refl _ _⟩))).mono ?_
          rintro e w1 ⟨rfl, hb1⟩
          rw [hq]
          go_wp2
          go_ret
          exact ⟨by rw [hfin.out]; rfl, below_then HB (below_then hb hb1)⟩
        | false =>
          have hnx := Aside0.mk (take_all hlt ha.out (by
            have : kids[j].all sumB = true := by rw [← Bool.not_eq_false', List.not_all_eq_any_not]; exact hq
            rw [this]; simp; omega))
          go_wp2_with fail
          refine (ContainsFunc_int (fun x => !sumB x) 125 #[] (enters_of Tryz.func125 (by kernel_rfl) rfl) _ _ _ _ g2 (fun W x _ => (proofOk1_calls x W).mono (by rintro e w' ⟨rfl, rfl⟩; exact ⟨rfl, Below.refl _ _⟩))).mono ?_
          rintro e w1 ⟨rfl, hb1⟩
          rw [hq]
          go_wp2
          go_roundg (gk - 1)
          case measure => omega
          case rel => exact ⟨j + 1, by go_num, by omega, hnx.out, below_then hb hb1⟩
      · have h60' : decide ((60 : Int) < (kids[j].length : Int)) = true := by simp; omega
        have hfin := Aside0.mk (po_kid (own := own) hlt (by simp; omega))
        go_wp2
        go_ret
        exact ⟨by rw [hfin.out]; rfl, below_then HB hb⟩
    · obtain rfl : j = kids.length := by omega
      obtain ⟨hc1, hf1⟩ := bcell hb
      have hall := ha.out
      rw [List.take_length] at hall
      have HA := Aside0.mk hall
      clear hall ha
      by_cases hl : own.length = kids.length
      · have HL := Aside0.mk hl
        have hll : ((own.length : Int) == (kids.length : Int)) = true := by simp [hl]
        clear hl
        by_cases h8 : own.length ≤ 8
        · have h8' : decide ((own.length : Int) ≤ (8 : Int)) = true := by simp; omega
          go_wp2_with fail
          refine (ContainsFunc_int (fun x => !sumB x) 127 #[] (enters_of Tryz.func127 (by kernel_rfl) rfl) _ _ _ _ (h1.below (below_then HB hb)) (fun W x _ => (proofOk2_calls x W).mono (by rintro e w' ⟨rfl, rfl⟩; exact ⟨rfl, Below.refl _ _⟩))).mono ?_
          rintro e w1 ⟨rfl, hb1⟩
          have hfin := Aside0.mk (show (!own.any fun x => !sumB x) = proofOkB own kids by
            have e2 : (kids.all fun k => decide (k.length ≤ 60) && k.all sumB) = true := List.all_eq_true.2 HA.out
            have d1 : decide (own.length = kids.length) = true := decide_eq_true HL.out
            have d2 : decide (own.length ≤ 8) = true := decide_eq_true h8
            simp only [proofOkB, e2, d1, d2, Bool.true_and, Bool.and_true]
            rw [← List.all_eq_not_any_not])
          go_wp2
          go_ret
          exact ⟨by rw [← hfin.out]; rfl, below_then HB (below_then hb hb1)⟩
        · have h8' : decide ((own.length : Int) ≤ (8 : Int)) = false := by simp; omega
          have hfin := Aside0.mk (show proofOkB own kids = false by simp [proofOkB, h8])
          go_wp2
          go_ret
          exact ⟨by rw [hfin.out]; rfl, below_then HB hb⟩
      · have hfin := Aside0.mk (show proofOkB own kids = false by simp [proofOkB, hl])
        have hll : ((own.length : Int) == (kids.length : Int)) = false := by simp; omega
        go_wp2
        go_ret
        exact ⟨by rw [hfin.out]; rfl, below_then HB hb⟩

end Go.Proofs.YtdggfnpioljcbaaGreatDoor
