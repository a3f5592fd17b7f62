/- slices.Clone at Decls and Attrs. -/
import Derived.Test.YtpcklgkpjmmakaaGreatDoorTo
import Derived.Test.YtpcklgkpjmmakaaGreatDoorOkPl
import Derived.Lib.SliceRun
namespace Go.Proofs.YtpcklgkpjmmakaaGreatDoor
open Go.RowKit Go.Lib
set_option linter.unusedVariables false
set_option linter.unusedSimpArgs false
set_option maxHeartbeats 4000000
set_option maxRecDepth 100000
section
variable {α : Type} {n : Nat} {enc : α → List Value} {hn : ∀ x, (enc x).length = n} {w : World} {ok : Nat → Prop}
theorem flat_length (hn : ∀ x, (enc x).length = n) (xs : List α) : (xs.flatMap enc).length = xs.length * n := by
  induction xs with
  | nil => simp
  | cons x xs ih => rw [List.flatMap_cons, List.length_append, hn, ih, List.length_cons, Nat.add_mul]; omega
theorem flat_news (h0 : 0 < n) {a : Addr} {xs : List α} (h : Row (Kd.flat n enc hn) w ok (some a) xs) : ∀ j u, (xs.flatMap enc)[j]? = some u → w.cell? (a.add j) = some u := by
  intro j u hj
  rcases h.2 with h | ⟨b, o, hA, hb, hlt, hi⟩
  · subst h; simp at hj
  · injection hA with hA
    subst hA
    have hjl : j < xs.length * n := by rw [← flat_length hn]; exact (List.getElem?_eq_some_iff.1 hj).1
    have hd : j / n < xs.length := Nat.div_lt_of_lt_mul (by rw [Nat.mul_comm]; exact hjl)
    have hm : j % n < n := Nat.mod_lt _ h0
    have e : j / n * n + j % n = j := by rw [Nat.mul_comm]; exact Nat.div_add_mod j n
    obtain ⟨cs, hk, hc⟩ := hi (j / n) hd
    have hk : cs = enc (xs[j / n]'hd) := hk
    subst hk
    have := hc (j % n) u (by rw [← flat_get hn xs (j / n) hd (j % n) hm, e]; exact hj)
    rw [show o + j / n * (Kd.flat n enc hn).sz + j % n = o + j by show o + j / n * n + j % n = _; omega] at this
    rw [Addr.add_lit]; exact this
theorem flat_own {e : TypeId} {base : Nat} {v : Value} {xs : List α} (h : w.ownsRow base e n v xs.length (xs.flatMap enc)) : Own (Kd.flat n enc hn) e w base ok v xs := by
  refine ⟨_, h, flat_length hn xs, fun i hi => ?_⟩
  show ((xs.flatMap enc).drop (i * n)).take n = enc (xs[i]'hi)
  apply List.ext_getElem?
  intro j
  rw [List.getElem?_take]
  split
  · rename_i hj
    rw [List.getElem?_drop, flat_get hn xs i hi j hj]
  · rename_i hj
    rw [List.getElem?_eq_none (by rw [hn]; omega)]
theorem flat_one (h : ∀ x, ∀ u ∈ enc x, u.oneCell' = true) (xs : List α) : ∀ u ∈ xs.flatMap enc, u.oneCell' = true := by
  intro u hu
  obtain ⟨x, _, hx⟩ := List.mem_flatMap.1 hu
  exact h x u hx
end
theorem dcl_one : ∀ d : Dcl, ∀ u ∈ d.cells, u.oneCell' = true := by
  intro d u hu
  simp only [Dcl.cells, List.mem_cons, List.not_mem_nil, or_false] at hu
  rcases hu with rfl | rfl <;> rfl
theorem atr_one : ∀ d : Atr, ∀ u ∈ d.cells, u.oneCell' = true := by
  intro d u hu
  simp only [Atr.cells, List.mem_cons, List.not_mem_nil, or_false] at hu
  rcases hu with rfl | rfl | rfl | rfl <;> rfl
/-- A new row that says xs. -/
def NewRow {α : Type} (d : Kd α) (w : World) (xs : List α) (e : Ending) (w' : World) : Prop := (∃ A c, e = .returned (.slice A xs.length c) ∧ xs.length ≤ c ∧ Row d w' (fun k => w.heap.size ≤ k) A xs) ∧ Below w.heap.size w w'
theorem cloneDecl_calls {ok : Nat → Prop} (A : Option Addr) (c : Nat) (xs : List Dcl) (w : World) (hl : xs.length ≤ 1048576) (hr : Row Kd.dcl w ok A xs) :
    Calls Tryz.prog 109 #[.slice A xs.length c] w (NewRow Kd.dcl w xs) := by
  have q : ∀ (w : World) (a : Option Addr) (n c n' c' : Nat), (binOp .eql 24 (.slice a n c) (.slice none n' c')).run Tryz.prog w = .ok (.bool a.isNone) w := fun w a n c n' c' => Lib.run_eql_slice_nil w _ _ a n c n' c' Tryz.underlying24
  cases A with
  | none =>
    have hx : xs = [] := by rcases hr.2 with h | ⟨b, o, hA, _⟩; exact h; cases hA
    subst hx
    go_enter Tryz.func109, Tryz.ntmps109
    go_wp2
    go_ret
    exact ⟨⟨none, 0, rfl, Nat.le_refl _, Row.nil _ _ _ _⟩, Below.refl _ _⟩
  | some a =>
    obtain ⟨i, hi, hz0, hz1, hz2⟩ := info_parts Tryz.info_Decl
    have hzs : ((.agg #[.string ⟨#[]⟩, .string ⟨#[]⟩]) : Value).cells.size = 2 := by rfl
    have hown0 := Aside0.mk (World.ownsRow_made (e := 122) (size := 2) w #[] 0 (Nat.le_refl _) (Nat.zero_le _) (by simp))
    have hnews := Aside0.mk (flat_news (by decide) hr)
    have hlen : (xs.flatMap Dcl.cells).length = xs.length * 2 := flat_length (enc := Dcl.cells) (n := 2) (fun _ => rfl) xs
    have hone := Aside0.mk (flat_one dcl_one xs)
    have hb := Aside0.mk (show Below w.heap.size w (w.alloc (.cells #[] 122)) from below_alloc (Below.refl _ _) _)
    clear hr
    go_enter Tryz.func109, Tryz.ntmps109
    go_wp2_with (at_builtin; refine wpList_append_own _ rfl _ _ 24 rfl w.heap.size 122 i (.agg #[.string ⟨#[]⟩, .string ⟨#[]⟩]) 2 _ Tryz.underlying24 hi hz0 hz1 rfl hzs (by decide) _ _ _ rfl hown0.out a xs.length c (xs.flatMap Dcl.cells) rfl ?qc1 ?qc2 ?qc3 ?qc4 ?qc5 ?qc6 ?_)
    case qc1 => exact hlen
    case qc2 => exact fun j u hj => Lib.cell?_alloc_some _ (hnews.out j u hj)
    case qc3 => exact hone.out
    case qc4 => unfold maxLen; omega
    case qc5 => rw [hz2, Nat.zero_add]; omega
    case qc6 => simp
    intro v' w1 hown hgrow hnil
    have hown := Aside0.mk hown
    have hbl := Aside0.mk (show Below w.heap.size w w1 from ((Below.refl _ w).alloc (Nat.le_refl _) _).grown hgrow (by simp) (by intro k hk; simp [Value.ownBlock] at hk; omega))
    go_wp2
    go_ret
    have h := flat_own (enc := Dcl.cells) (n := 2) (hn := fun _ => rfl) (ok := fun k => w.heap.size ≤ k) hown.out
    obtain ⟨A', c', rfl, hc, hrow⟩ := h.row (ok' := fun k => w.heap.size ≤ k) (fun _ h => h) (fun k hk => (h.base_le k hk).1)
    exact ⟨⟨A', c', rfl, hc, hrow⟩, hbl.out⟩
theorem cloneAttr_calls {ok : Nat → Prop} (A : Option Addr) (c : Nat) (xs : List Atr) (w : World) (hl : xs.length ≤ 1048576) (hr : Row Kd.atr w ok A xs) :
    Calls Tryz.prog 110 #[.slice A xs.length c] w (NewRow Kd.atr w xs) := by
  have q : ∀ (w : World) (a : Option Addr) (n c n' c' : Nat), (binOp .eql 25 (.slice a n c) (.slice none n' c')).run Tryz.prog w = .ok (.bool a.isNone) w := fun w a n c n' c' => Lib.run_eql_slice_nil w _ _ a n c n' c' Tryz.underlying25
  cases A with
  | none =>
    have hx : xs = [] := by rcases hr.2 with h | ⟨b, o, hA, _⟩; exact h; cases hA
    subst hx
    go_enter Tryz.func110, Tryz.ntmps110
    go_wp2
    go_ret
    exact ⟨⟨none, 0, rfl, Nat.le_refl _, Row.nil _ _ _ _⟩, Below.refl _ _⟩
  | some a =>
    obtain ⟨i, hi, hz0, hz1, hz2⟩ := info_parts Tryz.info_Attr
    have hzs : ((.agg #[.string ⟨#[]⟩, .string ⟨#[]⟩, .string ⟨#[]⟩, .string ⟨#[]⟩]) : Value).cells.size = 4 := by rfl
    have hown0 := Aside0.mk (World.ownsRow_made (e := 114) (size := 4) w #[] 0 (Nat.le_refl _) (Nat.zero_le _) (by simp))
    have hnews := Aside0.mk (flat_news (by decide) hr)
    have hlen : (xs.flatMap Atr.cells).length = xs.length * 4 := flat_length (enc := Atr.cells) (n := 4) (fun _ => rfl) xs
    have hone := Aside0.mk (flat_one atr_one xs)
    have hb := Aside0.mk (show Below w.heap.size w (w.alloc (.cells #[] 114)) from below_alloc (Below.refl _ _) _)
    clear hr
    go_enter Tryz.func110, Tryz.ntmps110
    go_wp2_with (at_builtin; refine wpList_append_own _ rfl _ _ 25 rfl w.heap.size 114 i (.agg #[.string ⟨#[]⟩, .string ⟨#[]⟩, .string ⟨#[]⟩, .string ⟨#[]⟩]) 4 _ Tryz.underlying25 hi hz0 hz1 rfl hzs (by decide) _ _ _ rfl hown0.out a xs.length c (xs.flatMap Atr.cells) rfl ?qc1 ?qc2 ?qc3 ?qc4 ?qc5 ?qc6 ?_)
    case qc1 => exact hlen
    case qc2 => exact fun j u hj => Lib.cell?_alloc_some _ (hnews.out j u hj)
    case qc3 => exact hone.out
    case qc4 => unfold maxLen; omega
    case qc5 => rw [hz2, Nat.zero_add]; omega
    case qc6 => simp
    intro v' w1 hown hgrow hnil
    have hown := Aside0.mk hown
    have hbl := Aside0.mk (show Below w.heap.size w w1 from ((Below.refl _ w).alloc (Nat.le_refl _) _).grown hgrow (by simp) (by intro k hk; simp [Value.ownBlock] at hk; omega))
    go_wp2
    go_ret
    have h := flat_own (enc := Atr.cells) (n := 4) (hn := fun _ => rfl) (ok := fun k => w.heap.size ≤ k) hown.out
    obtain ⟨A', c', rfl, hc, hrow⟩ := h.row (ok' := fun k => w.heap.size ≤ k) (fun _ h => h) (fun k hk => (h.base_le k hk).1)
    exact ⟨⟨A', c', rfl, hc, hrow⟩, hbl.out⟩
end Go.Proofs.YtpcklgkpjmmakaaGreatDoor
