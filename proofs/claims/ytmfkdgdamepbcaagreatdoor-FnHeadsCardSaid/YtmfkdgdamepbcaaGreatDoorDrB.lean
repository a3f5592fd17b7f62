/- Joined: Draw, Bend. -/
import Derived.Test.YtmfkdgdamepbcaaGreatDoorProg
import Derived.Test.YtmfkdgdamepbcaaGreatDoorBase
import Derived.WalkKit
import Derived.WalkLawsBesides
import Derived.WalkSpells
import Derived.Deep.LoopGhost
import Derived.Deep.QuietTactic
import Derived.BigQuiet
import Derived.Outline
import Derived.Laws.BytesArg
import Derived.Shelf.Abstract
import Derived.Deep.RegionHeld3
import Derived.Lib.ConvBytes
import Derived.Lib.JoinLaws
import Derived.Lib.AppendStr
import Derived.Maps.AppendAt
import Derived.Deep.RegionLaw
import Derived.StillTailTactics
import Derived.Deep.DeepCutAuto
import Derived.Deep.CutBlock
import Derived.Deep.RegionWith
import Derived.RegionTactic
section
/- Draws: a cursor over the bytes of a draw; only its block and new ones change. -/
namespace Go.Proofs.YtmfkdgdamepbcaaGreatDoor
open Go.RowKit
set_option linter.unusedVariables false
set_option linter.unusedSimpArgs false
/-- Block g holds a cursor. -/
def Cur (w : World) (g : Nat) : Prop :=
  ∃ A c i h, ∃ xs : List Int, w.heap[g]? = some (.cells #[.slice A xs.length c, .int .i64 i, .int .i64 h] 110 (0, 0)) ∧ 0 ≤ i ∧ i ≤ xs.length ∧ xs.length ≤ c ∧ Row (Kd.int .u8) w (fun k => k < g) A xs
theorem Cur.lt {w : World} {g : Nat} (h : Cur w g) : g < w.heap.size := by
  obtain ⟨_, _, _, _, _, h, _⟩ := h
  exact (Array.getElem?_eq_some_iff.1 h).1
theorem Cur.below {w w' : World} {g : Nat} (h : Cur w g) (hb : Below w.heap.size w w') : Cur w' g := by
  have hl := h.lt
  obtain ⟨A, c, i, k, xs, h, h0, h1, h2, hr⟩ := h
  exact ⟨A, c, i, k, xs, by rw [hb.block g hl]; exact h, h0, h1, h2, hr.below hb⟩
theorem Cur.cells {w : World} {g : Nat} (h : Cur w g) : ∃ A n c i k, w.cell? ⟨g, 0, none⟩ = some (.slice A n c) ∧ w.cell? ⟨g, 1, none⟩ = some (.int .i64 i) ∧ w.cell? ⟨g, 2, none⟩ = some (.int .i64 k) := by
  obtain ⟨A, c, i, k, xs, h, _⟩ := h
  exact ⟨A, _, c, i, k, by rw [cell_of_row _ _ _ _ _ _ h]; rfl, by rw [cell_of_row _ _ _ _ _ _ h]; rfl, by rw [cell_of_row _ _ _ _ _ _ h]; rfl⟩
theorem and255 (n : Int) : 0 ≤ bits .and .i64 n 255 ∧ bits .and .i64 n 255 < 256 := by
  unfold bits
  have h : (BitVec.ofInt IntKind.i64.bits n &&& BitVec.ofInt IntKind.i64.bits 255).toNat < 256 := by
    rw [BitVec.toNat_and]
    exact Nat.lt_of_le_of_lt Nat.and_le_right (by decide)
  simp only
  generalize (BitVec.ofInt IntKind.i64.bits n &&& BitVec.ofInt IntKind.i64.bits 255).toNat = m at *
  rw [IntKind.wrap_i64]
  omega
theorem cur_alloc {w : World} {A : Option Addr} {c : Nat} {xs : List Int} {h : Int} (hl : xs.length ≤ c) (hr : Row (Kd.int .u8) w (fun k => k < w.heap.size) A xs) :
    Cur (w.alloc (.cells #[.slice A xs.length c, .int .i64 0, .int .i64 h] 110 (0, 0))) w.heap.size :=
  ⟨A, c, 0, h, xs, Array.getElem?_push_size, by omega, by omega, hl, hr.below (below_alloc (Below.refl _ _) _)⟩
/-- A cursor's block, stored anew. -/
theorem cur_set {w w' : World} {g : Nat} {A : Option Addr} {c : Nat} {xs : List Int} {i h : Int} (hw : w'.heap[g]? = some (.cells #[.slice A xs.length c, .int .i64 i, .int .i64 h] 110 (0, 0)))
    (hm : Moved g w w') (h0 : 0 ≤ i) (h1 : i ≤ xs.length) (hl : xs.length ≤ c) (hr : Row (Kd.int .u8) w (fun k => k < g) A xs) : Cur w' g :=
  ⟨A, c, i, h, xs, hw, h0, h1, hl, moved_row hm hr (fun k hk => Nat.ne_of_lt hk)⟩
theorem l1New_calls (A : Option Addr) (c : Nat) (xs : List Int) (w : World) (hl : xs.length ≤ c) (hr : Row (Kd.int .u8) w (fun k => k < w.heap.size) A xs) :
    Calls Tryz.prog 32 #[.slice A xs.length c] w fun e w' => ∃ g, e = .returned (.pointer (some ⟨g, 0, none⟩)) ∧ w.heap.size ≤ g ∧ Below w.heap.size w w' ∧ Cur w' g := by
  have hmax := hr.max
  go_enter Tryz.func32, Tryz.ntmps32
  go_wp2
  go_loopg [3, 4] (4001 : Nat) (fun k s t wr => ∃ h j, s = .int .i64 h ∧ t = .int .i64 j ∧ 0 ≤ j ∧ j ≤ 4000 ∧ j ≤ xs.length ∧ j + k = 4001 ∧ wr = w)
  case atStart => exact ⟨_, 0, rfl, rfl, by omega, by omega, by omega, by omega, rfl⟩
  case round =>
    obtain ⟨h, j, rfl, rfl, h0, h1, h2, h3, rfl⟩ := hrel
    by_cases hj : j < xs.length
    · by_cases h4 : j < 4000
      · obtain ⟨b, o, rfl, hb, hc⟩ := int_at hr j.toNat (by omega)
        rw [show o + j.toNat = o + j.toNat from rfl] at hc
        go_wp2
        go_roundg (gk - 1)
        case measure => omega
        case rel => exact ⟨_, j + 1, rfl, by go_num, by omega, by omega, by omega, by omega, rfl⟩
      · go_wp2
        go_ret
        exact ⟨_, rfl, Nat.le_refl _, below_alloc (Below.refl _ _) _, cur_alloc hl hr⟩
    · go_wp2
      go_ret
      exact ⟨_, rfl, Nat.le_refl _, below_alloc (Below.refl _ _) _, cur_alloc hl hr⟩
theorem l1Byte_calls (g : Nat) (w : World) (hc : Cur w g) :
    Calls Tryz.prog 96 #[.pointer (some ⟨g, 0, none⟩)] w fun e w' => ∃ x : Int, e = .returned (.int .i64 x) ∧ 0 ≤ x ∧ x < 256 ∧ Moved g w w' ∧ Cur w' g := by
  obtain ⟨A, c, i, h, xs, hg, h0, h1, hl, hr⟩ := hc
  have hmax := hr.max
  have c0 := cell_of_row w g 0 _ _ _ hg
  have c1 := cell_of_row w g 1 _ _ _ hg
  have c2 := cell_of_row w g 2 _ _ _ hg
  have f1 := frozen_of_row w g 1 _ _ hg
  have f2 := frozen_of_row w g 2 _ _ hg
  have hg' := Aside0.mk hg
  clear hg
  simp only [List.getElem?_toArray, List.getElem?_cons_zero, List.getElem?_cons_succ] at c0 c1 c2
  go_enter Tryz.func96, Tryz.ntmps96
  go_wp2
  generalize (wrap64 (wrap64 (h * 6364136223846793005) + 1442695040888963407)) = h'
  obtain ⟨W, hW⟩ : ∃ W, W = w.setCell ⟨g, 2, none⟩ (.int .i64 h') := ⟨_, rfl⟩
  have HG : W.heap[g]? = some (.cells #[.slice A xs.length c, .int .i64 i, .int .i64 h'] 110 (0, 0)) := by rw [hW]; exact heap_setCell_same w g 2 _ _ _ hg'.out
  have HM : Moved g w W := by rw [hW]; exact (Moved.refl g w).set
  have HR : Row (Kd.int .u8) W (fun k => k < g) A xs := moved_row HM hr (fun k hk => Nat.ne_of_lt hk)
  rw [← hW]
  clear hW c0 c1 c2 f1 f2 hg' hr
  have c0 := cell_of_row W g 0 _ _ _ HG
  have c1 := cell_of_row W g 1 _ _ _ HG
  have c2 := cell_of_row W g 2 _ _ _ HG
  have f1 := frozen_of_row W g 1 _ _ HG
  simp only [List.getElem?_toArray, List.getElem?_cons_zero, List.getElem?_cons_succ] at c0 c1 c2
  have HG' := Aside0.mk HG
  clear HG
  go_quiet (fail)
  go_wp2
  go_quiet (fail)
  by_cases hi : i < xs.length
  · obtain ⟨b, o, rfl, hb, hcell⟩ := int_at HR i.toNat (by omega)
    go_wp2
    go_quiet (fail)
    go_wp2
    go_ret
    exact ⟨_, rfl, (and255 _).1, (and255 _).2, (HM.drewN _).set, cur_set (w := W) (heap_setCell_same (W.drewN _) g 1 _ _ _ HG'.out) (((Moved.refl g W).drewN _).set) (by omega) (by omega) hl HR⟩
  · go_wp2
    go_ret
    exact ⟨_, rfl, (and255 _).1, (and255 _).2, HM.drewN _, ⟨_, _, _, _, _, HG'.out, h0, h1, hl, HR⟩⟩
theorem l1Below_calls (g : Nat) (n : Int) (w : World) (hn : -9223372036854775808 ≤ n) (hn1 : n ≤ 9223372036854775807) (hc : Cur w g) :
    Calls Tryz.prog 45 #[.pointer (some ⟨g, 0, none⟩), .int .i64 n] w fun e w' => ∃ x : Int, e = .returned (.int .i64 x) ∧ 0 ≤ x ∧ (x < n ∨ n ≤ 0 ∧ x = 0) ∧ Moved g w w' ∧ Cur w' g := by
  go_enter Tryz.func45, Tryz.ntmps45
  by_cases h0 : n ≤ 0
  · go_wp2
    go_ret
    exact ⟨0, rfl, by omega, by omega, Moved.refl _ _, hc⟩
  · by_cases h1 : n ≤ 256
    · go_wp2_with fail
      refine (l1Byte_calls g w hc).mono ?_
      rintro e w1 ⟨x, rfl, hx0, hx1, hm, hc1⟩
      go_wp2
      go_ret
      have h2 := Int.tmod_nonneg n hx0
      have h3 := Int.tmod_lt_of_pos x (show 0 < n by omega)
      exact ⟨_, rfl, Int.emod_nonneg _ (by omega), .inl (Int.emod_lt_of_pos _ (by omega)), hm, hc1⟩
    · go_wp2_with fail
      refine (l1Byte_calls g w hc).mono ?_
      rintro e w1 ⟨x, rfl, hx0, hx1, hm, hc1⟩
      go_wp2_with fail
      refine (l1Byte_calls g w1 hc1).mono ?_
      rintro e w2 ⟨y, rfl, hy0, hy1, hm2, hc2⟩
      go_wp2_with fail
      refine (l1Byte_calls g w2 hc2).mono ?_
      rintro e w3 ⟨z, rfl, hz0, hz1, hm3, hc3⟩
      go_wp2
      go_ret
      have h2 := Int.tmod_nonneg n (show 0 ≤ x * 65536 + y * 256 + z by omega)
      have h3 := Int.tmod_lt_of_pos (x * 65536 + y * 256 + z) (show 0 < n by omega)
      exact ⟨_, rfl, Int.emod_nonneg _ (by omega), .inl (Int.emod_lt_of_pos _ (by omega)), hm.trans (hm2.trans hm3), hc3⟩
theorem l1Once_calls (g : Nat) (n : Int) (w : World) (hn : -9223372036854775808 ≤ n) (hn1 : n ≤ 9223372036854775807) (hc : Cur w g) :
    Calls Tryz.prog 35 #[.pointer (some ⟨g, 0, none⟩), .int .i64 n] w fun e w' => ∃ x : Bool, e = .returned (.bool x) ∧ Moved g w w' ∧ Cur w' g := by
  go_enter Tryz.func35, Tryz.ntmps35
  go_wp2_with fail
  refine (l1Below_calls g n w hn hn1 hc).mono ?_
  rintro e w1 ⟨x, rfl, hx0, hx1, hm, hc1⟩
  go_wp2
  go_ret
  exact ⟨_, rfl, hm, hc1⟩
theorem l1Int_calls (g : Nat) (A : Option Addr) (c : Nat) (xs : List Int) (w : World) (hc : Cur w g) (h0 : 0 < xs.length) (hl : xs.length ≤ c) (hr : Row (Kd.int .i64) w (fun k => k ≠ g) A xs) :
    Calls Tryz.prog 37 #[.pointer (some ⟨g, 0, none⟩), .slice A xs.length c] w fun e w' => ∃ x, e = .returned (.int .i64 x) ∧ x ∈ xs ∧ Moved g w w' ∧ Cur w' g := by
  have hmax := hr.max
  go_enter Tryz.func37, Tryz.ntmps37
  go_wp2_with fail
  refine (l1Below_calls g xs.length w (by omega) (by omega) hc).mono ?_
  rintro e w1 ⟨x, rfl, hx0, hx1, hm, hc1⟩
  obtain ⟨b, o, rfl, hb, hcell⟩ := int_at (moved_row hm hr (fun k hk => hk)) x.toNat (by omega)
  go_wp2
  go_ret
  exact ⟨_, rfl, List.getElem_mem _, hm, hc1⟩
theorem l1Str_calls (g : Nat) (A : Option Addr) (c : Nat) (xs : List ByteArray) (w : World) (hc : Cur w g) (h0 : 0 < xs.length) (hl : xs.length ≤ c) (hr : Row Kd.str w (fun k => k ≠ g) A xs) :
    Calls Tryz.prog 33 #[.pointer (some ⟨g, 0, none⟩), .slice A xs.length c] w fun e w' => ∃ x, e = .returned (.string x) ∧ x ∈ xs ∧ Moved g w w' ∧ Cur w' g := by
  have hmax := hr.max
  go_enter Tryz.func33, Tryz.ntmps33
  go_wp2_with fail
  refine (l1Below_calls g xs.length w (by omega) (by omega) hc).mono ?_
  rintro e w1 ⟨x, rfl, hx0, hx1, hm, hc1⟩
  obtain ⟨b, o, rfl, hb, hcell⟩ := str_at (moved_row hm hr (fun k hk => hk)) x.toNat (by omega)
  go_wp2
  go_ret
  exact ⟨_, rfl, List.getElem_mem _, hm, hc1⟩
/-- A row that is laid out whole. -/
theorem row_lit {α : Type} {enc : α → Value} {w : World} {ok : Nat → Prop} {T : TypeId} (xs : List α) (hok : ok w.heap.size) (hm : xs.length ≤ maxLen) :
    Row (Kd.one enc) (w.alloc (.cells (xs.map enc).toArray T (0, 0))) ok (some ⟨w.heap.size, 0, none⟩) xs := by
  refine ⟨hm, .inr ⟨_, _, rfl, hok, by rw [World.alloc, Array.size_push]; omega, fun i hi => ⟨_, rfl, fun j v hj => ?_⟩⟩⟩
  have hg : (w.alloc (.cells (xs.map enc).toArray T (0, 0))).heap[w.heap.size]? = some (.cells (xs.map enc).toArray T (0, 0)) := Array.getElem?_push_size
  rw [cell_of_row _ _ _ _ _ _ hg]
  cases j with
  | zero =>
    cases hj
    rw [show 0 + i * (Kd.one enc).sz + 0 = i from by show 0 + i * 1 + 0 = i; omega]
    simp [hi]
  | succ j => cases hj
theorem Cur.alloc {w : World} {g : Nat} (h : Cur w g) (o : Obj) : Cur (w.alloc o) g := h.below (below_alloc (Below.refl _ _) o)
end Go.Proofs.YtmfkdgdamepbcaaGreatDoor
end
section
/- l1Bend of the reference: some text, a few bytes longer at most. -/
namespace Go.Proofs.YtmfkdgdamepbcaaGreatDoor
open Go.RowKit Go.Lib
set_option linter.unusedVariables false
set_option linter.unusedSimpArgs false
set_option maxHeartbeats 0
set_option maxRecDepth 100000
theorem bd_below (w : World) (e : TypeId) (s : ByteArray) : Below w.heap.size w (Lib.bytesWorld w e s) :=
  ⟨rfl, rfl, rfl, by rw [Lib.bytesWorld_size]; omega, fun k hk => Lib.bytesWorld_at_old w e s k hk⟩
theorem Cur.new {w w1 : World} {g gb : Nat} (h : Cur w g) (hm : Moved gb w w1) (hg : g < gb) : Cur w1 g := by
  have hl := h.lt
  obtain ⟨A, c, i, k, xs, h, h0, h1, h2, hr⟩ := h
  exact ⟨A, c, i, k, xs, by rw [hm.block g hl (by omega)]; exact h, h0, h1, h2, moved_row hm hr (fun k hk => by omega)⟩
theorem bd_new {g g2 : Nat} {a b c : World} (h : Moved g a b) (k : Moved g2 b c) (h2 : a.heap.size ≤ g2) : Moved g a c :=
  ⟨k.os.trans h.os, k.tape.trans h.tape, k.output.trans h.output, Nat.le_trans h.size k.size, fun j hj hne => (k.block j (Nat.lt_of_lt_of_le hj h.size) (by omega)).trans (h.block j hj hne)⟩
/-- Block gb holds n bytes, and room for cap. -/
structure BA (w : World) (gb n cap : Nat) : Prop where
  lt : gb < w.heap.size
  le : n ≤ cap
  val : ∀ i, i < n → ∃ x, w.cell? ⟨gb, i, none⟩ = some (.int .u8 x)
  room : ∀ i, i < cap → (w.cell? ⟨gb, i, none⟩).isSome = true ∧ w.frozen? ⟨gb, i, none⟩ = false
def cellN (w : World) (gb i : Nat) : Int := match w.cell? ⟨gb, i, none⟩ with | some (.int _ x) => x | _ => 0
namespace BA
variable {w w1 : World} {gb n cap : Nat}
theorem start (w : World) (e : TypeId) (s : ByteArray) : BA (Lib.bytesWorld w e s) w.heap.size s.size (grownCap w s.size 0 e) where
  lt := by rw [Lib.bytesWorld_size]; omega
  le := grownCap_ge _ _ _ _
  val := fun i h => ⟨_, Lib.bytesWorld_cell w e s i h⟩
  room := fun i h => by
    have hs : (Lib.bytesCells w e s).size = grownCap w s.size 0 e := by
      have := grownCap_ge w s.size 0 e
      simp [Lib.bytesCells]
      have e2 : s.data.size = s.size := rfl
      omega
    constructor
    · rw [cell_of_row _ _ _ _ _ _ (Lib.bytesWorld_at_new w e s), Array.getElem?_eq_getElem (by rw [hs]; exact h)]; rfl
    · simp only [World.frozen?, Lib.bytesWorld_at_new]
      simp
      omega
theorem keep (h : BA w gb n cap) (hb : w1.heap[gb]? = w.heap[gb]?) (hl : w.heap.size ≤ w1.heap.size) : BA w1 gb n cap where
  lt := Nat.lt_of_lt_of_le h.lt hl
  le := h.le
  val := fun i hi => by rw [World.cell?_of_block (a := ⟨gb, i, none⟩) hb]; exact h.val i hi
  room := fun i hi => by rw [World.cell?_of_block (a := ⟨gb, i, none⟩) hb, World.frozen?_of_block (a := ⟨gb, i, none⟩) hb]; exact h.room i hi
theorem moved {g : Nat} (h : BA w gb n cap) (hm : Moved g w w1) (hne : gb ≠ g) : BA w1 gb n cap := h.keep (hm.block gb h.lt hne) hm.size
theorem set (h : BA w gb n cap) {i : Nat} (hi : i < n) (x : Int) : BA (w.setCell ⟨gb, i, none⟩ (.int .u8 x)) gb n cap where
  lt := by simp [World.setCell]; exact h.lt
  le := h.le
  val := fun j hj => by
    by_cases e : i = j
    · subst e
      obtain ⟨y, hy⟩ := h.val i hi
      exact ⟨x, World.cell?_setCell_same w _ _ hy⟩
    · rw [World.cell?_setCell_other w _ _ _ (fun z => e (by injection z))]
      exact h.val j hj
  room := fun j hj => by
    constructor
    · by_cases e : i = j
      · subst e
        obtain ⟨y, hy⟩ := h.val i hi
        rw [World.cell?_setCell_same w _ _ hy]; rfl
      · rw [World.cell?_setCell_other w _ _ _ (fun z => e (by injection z))]
        exact (h.room j hj).1
    · rw [World.frozen?_setCell]; exact (h.room j hj).2
theorem sets : ∀ (news : List Value) (o : Nat) (w : World), BA w gb n cap → (∀ u ∈ news, ∃ x, u = .int .u8 x) → o + news.length ≤ n → BA (w.setCells gb o news) gb n cap
  | [], _, _, h, _, _ => h
  | v :: r, o, w, h, hv, hl => by
    obtain ⟨x, rfl⟩ := hv v (by simp)
    simp only [List.length_cons] at hl
    exact sets r (o + 1) _ (h.set (by omega) x) (fun u hu => hv u (by simp [hu])) (by omega)
theorem less {m : Nat} (h : BA w gb n cap) (hm : m ≤ n) : BA w gb m cap := ⟨h.lt, Nat.le_trans hm h.le, fun i hi => h.val i (by omega), h.room⟩
theorem cell (h : BA w gb n cap) {i : Nat} (hi : i < n) : w.cell? ⟨gb, i, none⟩ = some (.int .u8 (cellN w gb i)) := by
  obtain ⟨x, hx⟩ := h.val i hi
  rw [cellN, hx]
theorem conv (h : BA w gb n cap) (c : Nat) : (convert 22 9 (.slice (some ⟨gb, 0, none⟩) n c)).run Tryz.prog w = .ok (.string (strOfNums ((List.range n).map (cellN w gb)))) w := by
  refine run_convert_bytes_arg (P := Tryz.prog) _ 22 5 Tryz.underlying22 Tryz.underlying5 gb 0 n c _ (by simp) ?_ 9 Tryz.underlying9
  intro i hi
  rw [Nat.zero_add, h.cell hi]
  simp [hi]
end BA
theorem BA.newsAt {w w1 : World} {gb n cap o m : Nat} (h : BA w gb n cap) (hb : w1.heap[gb]? = w.heap[gb]?) (ho : o + m ≤ n) : ∀ j u, ((List.range m).map fun j => Value.int .u8 (cellN w gb (o + j)))[j]? = some u → w1.cell? ((⟨gb, o, none⟩ : Addr).add j) = some u := by
  intro j u hj
  rw [List.getElem?_map] at hj
  by_cases hjm : j < m
  · rw [List.getElem?_range hjm] at hj
    injection hj with hj
    rw [← hj, Addr.add_lit, World.cell?_of_block (w := w) (a := ⟨gb, o + j, none⟩) hb]
    exact h.cell (by omega)
  · rw [List.getElem?_eq_none (by simp; omega)] at hj
    cases hj
theorem bd_ints (f : Nat → Int) (m : Nat) : ∀ u ∈ (List.range m).map (fun j => Value.int .u8 (f j)), ∃ x, u = .int .u8 x := by
  intro u hu
  obtain ⟨j, _, rfl⟩ := List.mem_map.1 hu
  exact ⟨_, rfl⟩
theorem bd_one {l : List Value} (h : ∀ u ∈ l, ∃ x, u = .int .u8 x) : ∀ u ∈ l, u.oneCell' = true := by
  intro u hu
  obtain ⟨x, rfl⟩ := h u hu
  rfl
theorem moved_sets (gb : Nat) : ∀ (vs : List Value) (o : Nat) (w w1 : World), Moved gb w w1 → Moved gb w (w1.setCells gb o vs)
  | [], _, _, _, h => h
  | v :: r, o, w, w1, h => moved_sets gb r (o + 1) w _ h.set
theorem Tryz.info_u8 : (Tryz.prog.info? 5).map (fun i => (i.zero, i.size, i.bytes)) = some (some (.int .u8 0), 1, 1) := by kernel_rfl
theorem bd_grown {g : Nat} {W w w3 : World} {ob : Option Nat} (h : Moved g W w) (hg : w.grownBy w3 ob) (hv : ∀ k, ob = some k → W.heap.size ≤ k) : Moved g W w3 :=
  ⟨hg.os.trans h.os, hg.tape.trans h.tape, hg.output.trans h.output, Nat.le_trans h.size hg.size, fun k hk hne => (hg.block k (Nat.lt_of_lt_of_le hk h.size) (fun e => by have := hv k e.symm; omega)).trans (h.block k hk hne)⟩
theorem Cur.grown {w w1 : World} {g : Nat} {ob : Option Nat} (h : Cur w g) (hg : w.grownBy w1 ob) (hv : ∀ k, ob = some k → g < k) : Cur w1 g := by
  have hl := h.lt
  obtain ⟨A, c, i, k, xs, h, h0, h1, h2, hr⟩ := h
  refine ⟨A, c, i, k, xs, by rw [hg.block g hl (fun e => by have := hv g e.symm; omega)]; exact h, h0, h1, h2, hr.agree (fun j hj hlt => hg.block j hlt (fun e => by have := hv j e.symm; omega))⟩
section
variable {P : Program} {w : World}
theorem step_app_at {ops : Array Oper} {o : Oper} {a : Act} {K : Act → World → Prop} {Q : Exit → Act → World → Prop} {E : Prop} (hgd : o.guard = none) (s x : Operand) (t : TypeId)
    (ho : o.op = .call { callee := .builtin .append, args := #[s, x], argTypes := #[t, t] })
    (base : Nat) (e : TypeId) (i : TypeInfo) (z : Value) (size bytes : Nat) (ht : P.underlying t = some (.slice e)) (hi : P.info? e = some i) (hz : i.zero = some z)
    (hsize : i.size = size) (hby : i.bytes = bytes) (hzs : z.cells.size = size) (hsz : 0 < size)
    (v : Value) (n : Nat) (xs : List Value) (hs : a.eval s = v) (hown : w.ownsRow base e size v n xs)
    (ad : Addr) (m c : Nat) (news : List Value) (hx : a.eval x = .slice (some ad) m c) (hl : news.length = m * size) (hnews : ∀ j u, news[j]? = some u → w.cell? (ad.add j) = some u) (h1 : ∀ u ∈ news, u.oneCell' = true)
    (h63 : n + m ≤ maxLen) (hbytes : (n + m) * bytes ≤ 140737488355328) (hbase : base ≤ w.heap.size)
    (h : ∀ v' w', w'.ownsRow base e size v' (n + m) (xs ++ news) → w.grownBy w' v.ownBlock → K (a.put o.dst v') w') :
    if Region.wanted o (yielded ops a.tmps) = true then Oper.wp P o a w K Q else E := by
  have hw : Region.wanted o (yielded ops a.tmps) = true := by simp [Region.wanted, hgd]
  rw [if_pos hw]
  obtain ⟨v', w', hr, h2, h3, _⟩ := run_append_own_at (P := P) w base t o.type e i z size bytes ht hi hz hsize hby hzs hsz v n xs hown ad m c news hl hnews h1 h63 hbytes hbase
  unfold Oper.wp execOp
  simp only [ho, resolve, invoke, builtin, Sem.run_bind, Sem.run_pure, Result.andThen_ok, List.map_toArray, List.map_cons, List.map_nil, hs, hx, hr]
  exact h v' w' h2 h3
theorem step_app_str {ops : Array Oper} {o : Oper} {a : Act} {K : Act → World → Prop} {Q : Exit → Act → World → Prop} {E : Prop} (hgd : o.guard = none) (sl x : Operand) (t u : TypeId)
    (ho : o.op = .call { callee := .builtin .append, args := #[sl, x], argTypes := #[t, u] })
    (base : Nat) (e : TypeId) (i : TypeInfo) (ht : P.underlying t = some (.slice e)) (hu : P.underlying u = some .string) (hi : P.info? e = some i) (hz : i.zero = some (.int .u8 0))
    (hsize : i.size = 1) (hby : i.bytes = 1)
    (v : Value) (n : Nat) (xs : List Value) (hs : a.eval sl = v) (hown : w.ownsRow base e 1 v n xs) (s : ByteArray) (hx : a.eval x = .string s)
    (h63 : n + s.size ≤ maxLen) (hbytes : n + s.size ≤ 140737488355328) (hbase : base ≤ w.heap.size)
    (h : ∀ v' w', w'.ownsRow base e 1 v' (n + s.size) (xs ++ strCells s) → w.grownBy w' v.ownBlock → K (a.put o.dst v') w') :
    if Region.wanted o (yielded ops a.tmps) = true then Oper.wp P o a w K Q else E := by
  have hw : Region.wanted o (yielded ops a.tmps) = true := by simp [Region.wanted, hgd]
  rw [if_pos hw]
  obtain ⟨v', w', hr, h2, h3, _⟩ := run_append_own_string (P := P) w base t u o.type e i ht hu hi hz hsize hby v n xs hown s h63 hbytes hbase
  unfold Oper.wp execOp
  simp only [ho, resolve, invoke, builtin, Sem.run_bind, Sem.run_pure, Result.andThen_ok, List.map_toArray, List.map_cons, List.map_nil, hs, hx, hr]
  exact h v' w' h2 h3
end
theorem bd_append {w : World} {ops : Array Oper} {rest : List Oper} {o : Oper} {a : Act} {Q : Exit → Act → World → Prop} (hg : o.guard = none) (s x : Operand)
    (hop : o.op = Op.call { callee := Callee.builtin Builtin.append, args := #[s, x], argTypes := #[22, 22] }) (gb k m N n0 cap c : Nat) (ad : Addr) (news : List Value)
    (hs : a.eval s = .slice (some ⟨gb, 0, none⟩) k cap) (hx : a.eval x = .slice (some ad) m c) (hl : news.length = m) (hnews : ∀ j u, news[j]? = some u → w.cell? (ad.add j) = some u) (hi : ∀ u ∈ news, ∃ x, u = .int .u8 x)
    (hN : k + m = N) (hB : BA w gb n0 cap) (hle : N ≤ n0)
    (h : ∀ W, BA W gb N cap → Moved gb w W → wpList Tryz.prog ops Q rest (a.put o.dst (.slice (some ⟨gb, 0, none⟩) N cap)) W) : wpList Tryz.prog ops Q (o :: rest) a w := by
  subst hN
  have hc := hB.le
  refine wpList_append_room1 w hg s x 22 22 hop 5 (.int .u8 0) 1 Tryz.underlying22 Tryz.info_u8 gb 0 k cap hs _ hx m news (Src.ofSlice (size := 1) w Tryz.underlying22 ad m c news (by omega) hnews (bd_one hi)) (by omega) (fun j hj => (hB.room _ (by omega)).1) (fun j hj => (hB.room _ (by omega)).2) ?_
  exact h _ ((BA.sets _ _ _ hB hi (by omega)).less hle) (moved_sets _ _ _ _ _ (Moved.refl _ _))
theorem own_conv {w : World} {base N : Nat} {v : Value} {cells : List Value} (ho : w.ownsRow base 5 1 v N cells) (hc : ∀ u ∈ cells, ∃ x, u = .int .u8 x) : ∃ r, (convert 22 9 v).run Tryz.prog w = .ok (.string r) w ∧ r.size = N := by
  have ho' := ho
  obtain ⟨hl, ⟨rfl, rfl⟩ | ⟨g, cap, cur, rfl, hb, hh, hle, _⟩⟩ := ho
  · exact ⟨_, run_convert_bytes_nil (P := Tryz.prog) w 22 5 Tryz.underlying22 Tryz.underlying5 0 0 9 Tryz.underlying9, rfl⟩
  · have hval : ∀ i, i < N → w.cell? ⟨g, i, none⟩ = some (.int .u8 (cellN w g i)) := fun i hi => by
      have hx : i < cells.length := by rw [hl]; omega
      have e := ho'.cellAt i (by omega)
      rw [List.getElem?_eq_getElem hx] at e
      obtain ⟨x, hx'⟩ := hc _ (List.getElem_mem hx)
      rw [cellN, e, hx']
    refine ⟨strOfNums ((List.range N).map (cellN w g)), ?_, by rw [strOfNums_size]; simp⟩
    refine run_convert_bytes_arg (P := Tryz.prog) _ 22 5 Tryz.underlying22 Tryz.underlying5 g 0 N cap _ (by simp) ?_ 9 Tryz.underlying9
    intro i hi
    rw [Nat.zero_add, hval i hi]
    simp [hi]
theorem bd_up {n : Nat} {W w w3 : World} {ob : Option Nat} (h : Below n W w) (hn : n ≤ W.heap.size) (hg : w.grownBy w3 ob) (hv : ∀ k, ob = some k → n ≤ k) : Below n W w3 :=
  ⟨hg.os.trans h.os, hg.tape.trans h.tape, hg.output.trans h.output, Nat.le_trans h.size hg.size, fun k hk => (hg.block k (by have := h.size; omega) (fun e => by have := hv k e.symm; omega)).trans (h.block k hk)⟩
theorem bd_app {a b : List Value} (ha : ∀ u ∈ a, ∃ x, u = .int .u8 x) (hb : ∀ u ∈ b, ∃ x, u = .int .u8 x) : ∀ u ∈ a ++ b, ∃ x, u = .int .u8 x := fun u hu => (List.mem_append.1 hu).elim (ha u) (hb u)
theorem bd_str (s : ByteArray) : ∀ u ∈ strCells s, ∃ x, u = .int .u8 x := by
  intro u hu
  obtain ⟨y, _, rfl⟩ := List.mem_map.1 hu
  exact ⟨_, rfl⟩
theorem bd_max {n : Nat} (h : n ≤ 1000000000) : n ≤ maxLen ∧ n * 1 ≤ 140737488355328 ∧ n ≤ 140737488355328 := ⟨Nat.le_trans h (by decide), by omega, by omega⟩
theorem l1Bend_calls (g : Nat) (s : ByteArray) (w : World) (hs : s.size ≤ 100000000) (hc : Cur w g) :
    Calls Tryz.prog 36 #[.pointer (some ⟨g, 0, none⟩), .string s] w fun e w' => ∃ r, e = .returned (.string r) ∧ r.size ≤ s.size + 10 ∧ Moved g w w' ∧ Cur w' g := by
  have hcv := @Lib.run_convert_string_bytes Tryz.prog w 9 22 5 s _ Tryz.underlying9 Tryz.underlying22 Tryz.underlying5
  have hba := BA.start w 5 s
  have hbb := bd_below w 5 s
  have hgl := hc.lt
  have hc0 := hc.below hbb
  have hm0 : Moved g w _ := Moved.of hbb
  clear hbb hc
  go_enter Tryz.func36, Tryz.ntmps36
  go_upto_region 2 with fail
  generalize Lib.bytesWorld w 5 s = wb at hba hc0 hm0 ⊢
  generalize grownCap w s.size 0 5 = cb at hba ⊢
  clear hcv
  obtain ⟨gb, hgb⟩ : ∃ gb, gb = w.heap.size := ⟨_, rfl⟩
  have hgbl : w.heap.size ≤ gb := by omega
  have hne : gb ≠ g := by omega
  have hgg : g < gb := by omega
  rw [← hgb] at hba ⊢
  clear hgb hgl
  go_wp2_with fail
  refine (l1Below_calls g 8 wb (by decide) (by decide) hc0).mono ?_
  rintro e w1 ⟨x, rfl, hx0, hx1, hm1, hc1⟩
  have hba := hba.moved hm1 hne
  have hm1 := hm0.trans hm1
  clear hc0 hm0
  by_cases h0 : x = 0
  · have e0 : ((x : Int) == 0) = true := by simp [h0]
    by_cases hn : 0 < s.size
    · have hn1 : (0 : Int) < (s.size : Int) := by omega
      go_wp2_with fail
      go_wp2_with fail
      refine (l1Below_calls g (s.size : Int) w1 (by omega) (by omega) hc1).mono ?_
      rintro e w2 ⟨k, rfl, hk0, hk1, hm2, hc2⟩
      have hba := hba.moved hm2 hne
      have hm2 := hm1.trans hm2
      obtain ⟨k, rfl⟩ : ∃ n : Nat, k = n := ⟨k.toNat, by omega⟩
      have hk : k < s.size := by omega
      have hki : (k : Int) < (s.size : Int) := by omega
      clear hk1 hc1 hm1
      have hcell := hba.cell hk
      have hfz := (hba.room k (by have := hba.le; omega)).2
      obtain ⟨v, hv⟩ : ∃ v, v = cellN w2 gb k := ⟨_, rfl⟩
      rw [← hv] at hcell
      clear hv
      have HL := Aside0.mk (fun W (hc : Cur W g) => l1Below_calls g 255 W (by decide) (by decide) hc)
      have HBA := Aside0.mk hba
      go_upto_region 6 with fail
      go_region_with (first
        | (go_at_call 45; refine (HL.out _ (hc2.below (below_drew (Below.refl _ _)))).mono ?_; rintro e w3 ⟨y, rfl, hy0, hy1, hm3, hc3⟩
           have hcell := (moved_cell hm3 (by exact HBA.out.lt) hne).trans hcell
           have hfz := (World.frozen?_of_block (a := ⟨gb, k, none⟩) (hm3.block gb HBA.out.lt hne)).trans hfz))
      all_goals
        generalize (bits BinOp.xor IntKind.u8 v (IntKind.u8.wrap (IntKind.i64.wrap (1 + y)))) = u
        have hb4 := (HBA.out.keep (w1 := w2.drew) rfl (Nat.le_refl _)).moved hm3 hne
        have hb5 := hb4.set hk u
        have hm5 := bd_new (hm2.drew.trans hm3) ((Moved.refl gb w3).set (o := k) (u := .int .u8 u)) hgbl
        have hc5 := hc3.new ((Moved.refl gb w3).set (o := k) (u := .int .u8 u)) hgg
        generalize w3.setCell ⟨gb, k, none⟩ (.int .u8 u) = w5 at hb5 hm5 hc5 ⊢
        clear hcell hfz
        have hcv := hb5.conv (cb)
        have HF := Aside0.mk (And.intro hm5 hc5)
        have hsz : ∀ f : Nat → Int, (strOfNums ((List.range s.size).map f)).size = s.size := fun f => by rw [strOfNums_size]; simp
        have HS := Aside0.mk hsz
        clear hsz
        go_wp2
        go_ret
        exact ⟨_, rfl, by rw [HS.out]; omega, HF.out.1, HF.out.2⟩
    · have hn1 : ¬ ((0 : Int) < (s.size : Int)) := by omega
      have hcv := hba.conv (cb)
      have HF := Aside0.mk (And.intro hm1 hc1)
      have hsz : ∀ f : Nat → Int, (strOfNums ((List.range s.size).map f)).size = s.size := fun f => by rw [strOfNums_size]; simp
      have HS := Aside0.mk hsz
      clear hsz
      go_wp2
      go_ret
      exact ⟨_, rfl, by rw [HS.out]; omega, HF.out.1, HF.out.2⟩
  have e0 : ((x : Int) == 0) = false := by simp [h0]
  by_cases h1 : x = 1
  · have e1 : ((x : Int) == 1) = true := by simp [h1]
    by_cases hn : 0 < s.size
    · have hn1 : (0 : Int) < (s.size : Int) := by omega
      go_wp2_with fail
      go_wp2_with fail
      refine (l1Below_calls g (s.size : Int) w1 (by omega) (by omega) hc1).mono ?_
      rintro e w2 ⟨k, rfl, hk0, hk1, hm2, hc2⟩
      have hba := hba.moved hm2 hne
      have hm2 := hm1.trans hm2
      obtain ⟨k, rfl⟩ : ∃ n : Nat, k = n := ⟨k.toNat, by omega⟩
      have hk : k < s.size := by omega
      have hki : (k : Int) < (s.size : Int) := by omega
      clear hk1 hc1 hm1
      have i1 : IntKind.i64.wrap ((k : Int) + 1) = (k : Int) + 1 := by rw [IntKind.wrap_i64]; omega
      have i2 : (0 : Int) ≤ (k : Int) + 1 := by omega
      have i3 : (k : Int) + 1 ≤ (s.size : Int) := by omega
      have i4 : ((k : Int) + 1).toNat = k + 1 := by omega
      have i5 : (k : Int) ≤ (cb : Int) := by have := hba.le; omega
      go_upto_region 10 with fail
      go_still_tail 7, (by kernel_rfl)
      change wpList _ _ _ _ _ w2.drew
      have hbd := hba.keep (w1 := w2.drew) rfl (Nat.le_refl _)
      have hcd := hc2.below (below_drew (Below.refl _ _))
      have hmd := hm2.drew
      generalize w2.drew = w3 at hbd hcd hmd ⊢
      clear hba hc2 hm2
      have hBD := Aside0.mk hbd
      clear hbd
      have hle := hBD.out.le
      obtain ⟨N, hN⟩ : ∃ N, N = s.size - 1 := ⟨_, rfl⟩
      have hN1 := Aside0.mk (show k + (s.size - (k + 1)) = N by omega)
      have hN2 := Aside0.mk (show N ≤ s.size + 10 by omega)
      have hN3 := Aside0.mk (show N ≤ s.size by omega)
      clear hN
      by_cases hcb : cb = k + 1
      · have hk9 := Aside0.mk (show s.size - (k + 1) = 0 by omega)
        subst hcb
        have hcv := (hBD.out.less (show k ≤ s.size by omega)).conv (k + 1)
        have HF := Aside0.mk (And.intro hmd hcd)
        have HS := Aside0.mk (fun f : Nat → Int => show (strOfNums ((List.range k).map f)).size = k by rw [strOfNums_size]; simp)
        have hk8 := Aside0.mk (show k ≤ s.size + 10 by omega)
        clear hcd hmd
        go_wp2
        go_ret
        exact ⟨_, rfl, by rw [HS.out]; exact hk8.out, HF.out.1, HF.out.2⟩
      · go_wp2_with (at_builtin; go_loud (refine bd_append rfl _ _ rfl gb k (s.size - (k + 1)) N s.size cb (cb - (k + 1)) ⟨gb, k + 1, none⟩ ((List.range (s.size - (k + 1))).map fun j => Value.int .u8 (cellN w3 gb ((k + 1) + j))) rfl (congrArg (fun z => Value.slice z (s.size - (k + 1)) (cb - (k + 1))) (if_neg hcb)) (by simp) (hBD.out.newsAt rfl (by omega)) (bd_ints _ _) hN1.out hBD.out hN3.out ?_))
        intro w5 hb5 hms
        have hm5 := bd_new hmd hms hgbl
        have hc5 := hcd.new hms hgg
        have hcv := hb5.conv cb
        have HF := Aside0.mk (And.intro hm5 hc5)
        have HS := Aside0.mk (fun f : Nat → Int => show (strOfNums ((List.range N).map f)).size = N by rw [strOfNums_size]; simp)
        clear hms hm5 hc5 hcd hmd
        go_wp2
        go_ret
        exact ⟨_, rfl, by rw [HS.out]; exact hN2.out, HF.out.1, HF.out.2⟩
    · have hn1 : ¬ ((0 : Int) < (s.size : Int)) := by omega
      have hcv := hba.conv (cb)
      have HF := Aside0.mk (And.intro hm1 hc1)
      have hsz : ∀ f : Nat → Int, (strOfNums ((List.range s.size).map f)).size = s.size := fun f => by rw [strOfNums_size]; simp
      have HS := Aside0.mk hsz
      clear hsz
      go_wp2
      go_ret
      exact ⟨_, rfl, by rw [HS.out]; omega, HF.out.1, HF.out.2⟩
  have e1 : ((x : Int) == 1) = false := by simp [h1]
  by_cases h2 : x = 2
  · have e2 : ((x : Int) == 2) = true := by simp [h2]
    go_wp2_with fail
    refine (l1Below_calls g ((s.size : Int) + 1) w1 (by omega) (by omega) hc1).mono ?_
    rintro e w2 ⟨k, rfl, hk0, hk1, hm2, hc2⟩
    obtain ⟨k, rfl⟩ : ∃ n : Nat, k = n := ⟨k.toNat, by omega⟩
    have hk : k ≤ s.size := by omega
    have hki : (k : Int) ≤ (s.size : Int) := by omega
    have hba := hba.moved hm2 hne
    have hm2 := hm1.trans hm2
    clear hk1 hc1 hm1
    have hlt := hc2.lt
    go_wp2_with fail
    refine (l1Str_calls g _ _ [⟨#[60]⟩, ⟨#[62]⟩, ⟨#[38]⟩, ⟨#[34]⟩, ⟨#[39]⟩, ⟨#[47]⟩, ⟨#[32]⟩, ⟨#[61]⟩, ⟨#[10]⟩, ⟨#[93]⟩, ⟨#[120]⟩, ⟨#[255]⟩, ⟨#[45]⟩] _ (hc2.alloc _) (by decide) (Nat.le_refl _) (row_lit _ (by omega) (by decide))).mono ?_
    rintro e w3 ⟨z, rfl, hz, hm3, hc3⟩
    have hz1 : z.size ≤ 1 := (by decide : ∀ x ∈ [⟨#[60]⟩, ⟨#[62]⟩, ⟨#[38]⟩, ⟨#[34]⟩, ⟨#[39]⟩, ⟨#[47]⟩, ⟨#[32]⟩, ⟨#[61]⟩, ⟨#[10]⟩, ⟨#[93]⟩, ⟨#[120]⟩, ⟨#[255]⟩, ⟨#[45]⟩], (x : ByteArray).size ≤ 1) z hz
    have hba := hba.keep (w1 := w2.alloc _) ((below_alloc (Below.refl w2.heap.size w2) (.cells #[.string ⟨#[60]⟩, .string ⟨#[62]⟩, .string ⟨#[38]⟩, .string ⟨#[34]⟩, .string ⟨#[39]⟩, .string ⟨#[47]⟩, .string ⟨#[32]⟩, .string ⟨#[61]⟩, .string ⟨#[10]⟩, .string ⟨#[93]⟩, .string ⟨#[120]⟩, .string ⟨#[255]⟩, .string ⟨#[45]⟩] 9)).block gb hba.lt) (below_alloc (Below.refl w2.heap.size w2) _).size
    have hba := hba.moved hm3 hne
    have hm3 := (hm2.alloc _).trans hm3
    clear hm2 hc2 hlt hz
    obtain ⟨i, hi, hz0, hz1', hz2⟩ := info_parts Tryz.info_u8
    go_upto_region 14 with fail
    have hbd := hba
    have hcd := hc3
    have hmd := hm3
    have hle := hba.le
    clear hba hc3 hm3
    have hBD := Aside0.mk hbd
    have hC := Aside0.mk hcd
    have hM := Aside0.mk hmd
    have hgbw := hbd.lt
    have hgw := hcd.lt
    have i5 : (k : Int) ≤ (cb : Int) := by omega
    have i6 : (0 : Int) ≤ (k : Int) := by omega
    clear hbd hcd hmd
    have HO := Aside0.mk (show ((w3.alloc (.cells #[] 5)).drew).ownsRow w3.heap.size 5 1 (.slice (some ⟨w3.heap.size, 0, none⟩) 0 0) 0 [] from World.ownsRow_made w3 #[] 0 (Nat.le_refl _) (Nat.zero_le _) rfl)
    by_cases hcb : cb = k
    · subst hcb
      have hk9 := Aside0.mk (show s.size - cb = 0 by omega)
      have hk := Aside0.mk hk
      go_region_law (first
        | (refine step_app_at rfl (.tmp 62) (.tmp 65) 22 rfl w3.heap.size 5 i (.int .u8 0) 1 1 Tryz.underlying22 hi hz0 hz1' hz2 rfl (by decide) (.slice (some ⟨w3.heap.size, 0, none⟩) 0 0) 0 [] rfl HO.out ⟨gb, 0, none⟩ cb cb ((List.range cb).map fun j => Value.int .u8 (cellN w3 gb (0 + j))) rfl (by simp) (hBD.out.newsAt (o := 0) ((below_drew (below_alloc (Below.refl w3.heap.size w3) (.cells #[] 5))).block gb hgbw) (by omega)) (bd_one (bd_ints _ _)) (bd_max (by omega)).1 (bd_max (by omega)).2.1 (below_drew (below_alloc (Below.refl w3.heap.size w3) (.cells #[] 5))).size ?_
           intro v1 w5 hown1 hg1
           have hb5 := bd_up (below_drew (below_alloc (Below.refl w3.heap.size w3) (.cells #[] 5))) (Nat.le_refl _) hg1 (fun k e => (HO.out.lt k e).1)
           clear hg1)
        | (refine step_app_str rfl (.tmp 66) (.tmp 67) 22 9 rfl w3.heap.size 5 i Tryz.underlying22 Tryz.underlying9 hi hz0 hz1' hz2 v1 _ _ rfl hown1 z rfl (bd_max (by omega)).1 (bd_max (by omega)).2.2 hb5.size ?_
           intro v2 w6 hown2 hg2
           have hb6 := bd_up hb5 (Nat.le_refl _) hg2 (fun k e => (hown1.lt k e).1)
           clear hg2)
        | (refine step_app_at rfl (.tmp 68) (.tmp 71) 22 rfl w3.heap.size 5 i (.int .u8 0) 1 1 Tryz.underlying22 hi hz0 hz1' hz2 rfl (by decide) v2 _ _ rfl hown2 ⟨gb, 0, none⟩ 0 0 ((List.range 0).map fun j => Value.int .u8 (cellN w3 gb (cb + j))) rfl (by simp) (by intro j u hj; simp at hj) (bd_one (bd_ints _ _)) (bd_max (by omega)).1 (bd_max (by omega)).2.1 hb6.size ?_
           intro v3 w7 hown3 hg3
           have hb7 := bd_up hb6 (Nat.le_refl _) hg3 (fun k e => (hown2.lt k e).1)
           clear hg3))
      have ho := own_conv hown3 (bd_app (bd_app (bd_app (by simp) (bd_ints _ _)) (bd_str z)) (bd_ints _ _))
      obtain ⟨r, hcv, hr⟩ := ho
      have HF := Aside0.mk (And.intro (hM.out.trans (Moved.of hb7)) (hC.out.below hb7))
      have HR := Aside0.mk (show r.size ≤ s.size + 10 by omega)
      clear hown1 hown2 hown3 hb5 hb6 hb7 hr
      go_wp2
      go_ret
      exact ⟨_, rfl, HR.out, HF.out.1, HF.out.2⟩
    · go_region_law (first
        | (refine step_app_at rfl (.tmp 62) (.tmp 65) 22 rfl w3.heap.size 5 i (.int .u8 0) 1 1 Tryz.underlying22 hi hz0 hz1' hz2 rfl (by decide) (.slice (some ⟨w3.heap.size, 0, none⟩) 0 0) 0 [] rfl HO.out ⟨gb, 0, none⟩ k cb ((List.range k).map fun j => Value.int .u8 (cellN w3 gb (0 + j))) rfl (by simp) (hBD.out.newsAt (o := 0) ((below_drew (below_alloc (Below.refl w3.heap.size w3) (.cells #[] 5))).block gb hgbw) (by omega)) (bd_one (bd_ints _ _)) (bd_max (by omega)).1 (bd_max (by omega)).2.1 (below_drew (below_alloc (Below.refl w3.heap.size w3) (.cells #[] 5))).size ?_
           intro v1 w5 hown1 hg1
           have hb5 := bd_up (below_drew (below_alloc (Below.refl w3.heap.size w3) (.cells #[] 5))) (Nat.le_refl _) hg1 (fun k e => (HO.out.lt k e).1)
           clear hg1)
        | (refine step_app_str rfl (.tmp 66) (.tmp 67) 22 9 rfl w3.heap.size 5 i Tryz.underlying22 Tryz.underlying9 hi hz0 hz1' hz2 v1 _ _ rfl hown1 z rfl (bd_max (by omega)).1 (bd_max (by omega)).2.2 hb5.size ?_
           intro v2 w6 hown2 hg2
           have hb6 := bd_up hb5 (Nat.le_refl _) hg2 (fun k e => (hown1.lt k e).1)
           clear hg2)
        | (refine step_app_at rfl (.tmp 68) (.tmp 71) 22 rfl w3.heap.size 5 i (.int .u8 0) 1 1 Tryz.underlying22 hi hz0 hz1' hz2 rfl (by decide) v2 _ _ rfl hown2 ⟨gb, k, none⟩ (s.size - k) (cb - k) ((List.range (s.size - k)).map fun j => Value.int .u8 (cellN w3 gb (k + j))) rfl (by simp) (hBD.out.newsAt (hb6.block gb hgbw) (by omega)) (bd_one (bd_ints _ _)) (bd_max (by omega)).1 (bd_max (by omega)).2.1 hb6.size ?_
           intro v3 w7 hown3 hg3
           have hb7 := bd_up hb6 (Nat.le_refl _) hg3 (fun k e => (hown2.lt k e).1)
           clear hg3))
      have ho := own_conv hown3 (bd_app (bd_app (bd_app (by simp) (bd_ints _ _)) (bd_str z)) (bd_ints _ _))
      obtain ⟨r, hcv, hr⟩ := ho
      have HF := Aside0.mk (And.intro (hM.out.trans (Moved.of hb7)) (hC.out.below hb7))
      have HR := Aside0.mk (show r.size ≤ s.size + 10 by omega)
      clear hown1 hown2 hown3 hb5 hb6 hb7 hr
      go_wp2
      go_ret
      exact ⟨_, rfl, HR.out, HF.out.1, HF.out.2⟩
  have e2 : ((x : Int) == 2) = false := by simp [h2]
  have hcv := hba.conv (cb)
  have HF := Aside0.mk (And.intro hm1 hc1)
  have hsz : ∀ f : Nat → Int, (strOfNums ((List.range s.size).map f)).size = s.size := fun f => by rw [strOfNums_size]; simp
  have HS := Aside0.mk hsz
  clear hsz
  go_wp2
  go_ret
  exact ⟨_, rfl, by rw [HS.out]; omega, HF.out.1, HF.out.2⟩
end Go.Proofs.YtmfkdgdamepbcaaGreatDoor
end
