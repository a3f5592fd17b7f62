/- Joined: HdP, HdB, DefS, HdM, DefI. -/
import Derived.Test.YtmfkdgdamepbcaaGreatDoorScnP
import Derived.Test.YtmfkdgdamepbcaaGreatDoorEnts
import Derived.Test.YtmfkdgdamepbcaaGreatDoorHas
import Derived.Test.YtmfkdgdamepbcaaGreatDoorOkA
import Derived.Test.YtmfkdgdamepbcaaGreatDoorMkB
import Derived.Test.YtmfkdgdamepbcaaGreatDoorClone
import Derived.Test.YtmfkdgdamepbcaaGreatDoorEntL
import Derived.Laws.AppendOwn
import Derived.Maps.AppendAt
section
/- Heads in plain Lean. -/
namespace Go.Proofs.YtmfkdgdamepbcaaGreatDoor
open Go.RowKit Go.Lib
set_option linter.unusedVariables false
set_option linter.unusedSimpArgs false
structure Df where
  el : ByteArray
  at_ : ByteArray
  id : Bool
  has : Bool
  val : ByteArray
/-- Blanks, at least one: the place behind. -/
def gapO (s : ByteArray) (k : Nat) : Option Nat := if blanksN s k = k then none else some (blanksN s k)
theorem gapO_next {s : ByteArray} {k b : Nat} (h : gapO s k = some b) : k < b ∧ b = blanksN s k := by
  have := blanksN_le s k
  unfold gapO at h
  split at h
  · cases h
  · injection h with h
    subst h
    exact ⟨by omega, rfl⟩
/-- What stands behind <!ENTITY: the Ent and the place behind. -/
def entO (s : ByteArray) (k : Nat) (es : List Dcl) : Option (Dcl × Nat) :=
  (gapO s k).bind fun b1 => (nameO s b1).bind fun p => if plainOk p.1 = true then
    (gapO s p.2).bind fun b2 => (quoO s b2).bind fun q => (expandV q.1 es).bind fun v =>
      if isAtB s ⟨#[62]⟩ (blanksN s q.2 : Nat) = true ∧ entsOk (es ++ [⟨p.1, v⟩]) = true then some (⟨p.1, v⟩, blanksN s q.2 + 1) else none
  else none
/-- ID (true) or CDATA. -/
def kindO (s : ByteArray) (k : Nat) : Option (Bool × Nat) :=
  if isAtB s ⟨#[67, 68, 65, 84, 65]⟩ (k : Nat) = true then some (false, k + 5) else if isAtB s ⟨#[73, 68]⟩ (k : Nat) = true then some (true, k + 2) else none
/-- #IMPLIED, or a value where it is no ID. -/
def dfltO (s : ByteArray) (k : Nat) (id : Bool) (es : List Dcl) : Option (Bool × ByteArray × Nat) :=
  if isAtB s ⟨#[35, 73, 77, 80, 76, 73, 69, 68]⟩ (k : Nat) = true then some (false, ⟨#[]⟩, k + 8)
  else if id = true then none else (quoO s k).bind fun q => (expandV (spacedB q.1) es).map fun v => (true, v, q.2)
def hasDf (ds : List Df) (el at_ : ByteArray) : Bool := ds.any fun d => decide (d.el = el) && decide (d.at_ = at_)
def defO (s : ByteArray) (k : Nat) (el : ByteArray) (es : List Dcl) (ds : List Df) : Option (Df × Nat) :=
  (nameO s k).bind fun p => (gapO s p.2).bind fun b1 => (kindO s b1).bind fun i => (gapO s i.2).bind fun b2 => (dfltO s b2 i.1 es).bind fun d =>
    if hasDf ds el p.1 = true ∨ ¬ ds.length + 1 ≤ 6 then none else some (⟨el, p.1, i.1, d.1, d.2.1⟩, d.2.2)
theorem entO_next {s : ByteArray} {k nx : Nat} {es : List Dcl} {x : Dcl} (hk : k ≤ s.size) (h : entO s k es = some (x, nx)) : k < nx ∧ nx ≤ s.size ∧ entsOk (es ++ [x]) = true := by
  unfold entO at h
  cases e1 : gapO s k with
  | none => rw [e1] at h; cases h
  | some b1 =>
    have h1 := gapO_next e1
    have l1 := blanksN_le s k
    rw [e1] at h
    simp only [Option.bind_some] at h
    cases e2 : nameO s b1 with
    | none => rw [e2] at h; cases h
    | some p =>
      obtain ⟨n, k1⟩ := p
      have h2 := nameO_next (by omega) e2
      rw [e2] at h
      simp only [Option.bind_some] at h
      split at h
      · cases e3 : gapO s k1 with
        | none => rw [e3] at h; cases h
        | some b2 =>
          have h3 := gapO_next e3
          rw [e3] at h
          simp only [Option.bind_some] at h
          cases e4 : quoO s b2 with
          | none => rw [e4] at h; cases h
          | some q =>
            obtain ⟨v0, k2⟩ := q
            have h4 := quoO_next e4
            rw [e4] at h
            simp only [Option.bind_some] at h
            cases e5 : expandV v0 es with
            | none => rw [e5] at h; cases h
            | some v =>
              rw [e5] at h
              simp only [Option.bind_some] at h
              split at h
              · rename_i hc
                have h6 : blanksN s k2 + 1 ≤ s.size := isAt_room hc.1
                have l2 := blanksN_le s k2
                injection h with h
                injection h with h7 h8
                rw [← h7, ← h8]
                exact ⟨by omega, by omega, hc.2⟩
              · cases h
      · cases h
theorem kindO_next {s : ByteArray} {k nx : Nat} {b : Bool} (h : kindO s k = some (b, nx)) : k < nx ∧ nx ≤ s.size := by
  unfold kindO at h
  split at h
  · rename_i hc
    have := isAt_room hc
    injection h with h; injection h with _ h
    rw [← h]; exact ⟨by omega, this⟩
  · split at h
    · rename_i hc
      have := isAt_room hc
      injection h with h; injection h with _ h
      rw [← h]; exact ⟨by omega, this⟩
    · cases h
theorem dfltO_next {s : ByteArray} {k nx : Nat} {id b : Bool} {es : List Dcl} {v : ByteArray} (h : dfltO s k id es = some (b, v, nx)) : k < nx ∧ nx ≤ s.size := by
  unfold dfltO at h
  split at h
  · rename_i hc
    have := isAt_room hc
    injection h with h; injection h with _ h; injection h with _ h
    rw [← h]; exact ⟨by omega, this⟩
  · split at h
    · cases h
    · cases e : quoO s k with
      | none => rw [e] at h; cases h
      | some q =>
        obtain ⟨v0, k2⟩ := q
        have h4 := quoO_next e
        rw [e] at h
        simp only [Option.bind_some] at h
        cases e5 : expandV (spacedB v0) es with
        | none => rw [e5] at h; cases h
        | some v1 =>
          rw [e5] at h
          simp only [Option.map_some] at h
          injection h with h; injection h with _ h; injection h with _ h
          rw [← h]; exact ⟨by omega, h4.2⟩
theorem defO_next {s el : ByteArray} {k nx : Nat} {es : List Dcl} {ds : List Df} {x : Df} (hk : k ≤ s.size) (h : defO s k el es ds = some (x, nx)) : k < nx ∧ nx ≤ s.size ∧ ds.length + 1 ≤ 6 := by
  unfold defO at h
  cases e1 : nameO s k with
  | none => rw [e1] at h; cases h
  | some p =>
    obtain ⟨n, k1⟩ := p
    have h1 := nameO_next hk e1
    rw [e1] at h
    simp only [Option.bind_some] at h
    cases e2 : gapO s k1 with
    | none => rw [e2] at h; cases h
    | some b1 =>
      have h2 := gapO_next e2
      rw [e2] at h
      simp only [Option.bind_some] at h
      cases e3 : kindO s b1 with
      | none => rw [e3] at h; cases h
      | some i =>
        obtain ⟨id, k2⟩ := i
        have h3 := kindO_next e3
        rw [e3] at h
        simp only [Option.bind_some] at h
        cases e4 : gapO s k2 with
        | none => rw [e4] at h; cases h
        | some b2 =>
          have h4 := gapO_next e4
          rw [e4] at h
          simp only [Option.bind_some] at h
          cases e5 : dfltO s b2 id es with
          | none => rw [e5] at h; cases h
          | some d =>
            obtain ⟨hs, v, k3⟩ := d
            have h5 := dfltO_next e5
            rw [e5] at h
            simp only [Option.bind_some] at h
            split at h
            · cases h
            · rename_i hc
              injection h with h
              injection h with _ h
              rw [← h]
              exact ⟨by omega, h5.2, Decidable.byContradiction fun e => hc (.inr e)⟩
def listGo (s el : ByteArray) (es : List Dcl) : Nat → Nat → List Df → Option (List Df × Nat)
  | 0, _, _ => none
  | f + 1, k, ds =>
    if isAtB s ⟨#[62]⟩ (blanksN s k : Nat) = true then some (ds, blanksN s k + 1)
    else (gapO s k).bind fun b => (defO s b el es ds).bind fun q => listGo s el es f q.2 (ds ++ [q.1])
theorem listGo_fuel (s el : ByteArray) (es : List Dcl) : ∀ f f' k ds, k ≤ s.size → s.size + 1 - k ≤ f → s.size + 1 - k ≤ f' → listGo s el es f k ds = listGo s el es f' k ds
  | 0, _, k, _, hk, h, _ => by omega
  | _ + 1, 0, k, _, hk, _, h => by omega
  | f + 1, f' + 1, k, ds, hk, h1, h2 => by
    have hb := blanksN_le s k
    rw [listGo, listGo]
    cases e : gapO s k with
    | none => rfl
    | some b =>
      have hg := gapO_next e
      simp only [Option.bind_some]
      cases e2 : defO s b el es ds with
      | none => rfl
      | some q =>
        obtain ⟨x, nx⟩ := q
        have := defO_next (by omega) e2
        simp only [Option.bind_some]
        rw [listGo_fuel s el es f f' nx (ds ++ [x]) (by omega) (by omega) (by omega)]
def listN (s el : ByteArray) (es : List Dcl) (k : Nat) (ds : List Df) : Option (List Df × Nat) := listGo s el es (s.size + 1 - k) k ds
theorem listN_at {s el : ByteArray} {es : List Dcl} {k : Nat} {ds : List Df} (hk : k ≤ s.size) : listN s el es k ds =
    if isAtB s ⟨#[62]⟩ (blanksN s k : Nat) = true then some (ds, blanksN s k + 1)
    else (gapO s k).bind fun b => (defO s b el es ds).bind fun q => listN s el es q.2 (ds ++ [q.1]) := by
  have hb := blanksN_le s k
  unfold listN
  rw [show s.size + 1 - k = (s.size - k) + 1 by omega, listGo]
  cases e : gapO s k with
  | none => rfl
  | some b =>
    have hg := gapO_next e
    simp only [Option.bind_some]
    cases e2 : defO s b el es ds with
    | none => rfl
    | some q =>
      obtain ⟨x, nx⟩ := q
      have := defO_next (by omega) e2
      simp only [Option.bind_some]
      rw [listGo_fuel s el es (s.size - k) (s.size + 1 - nx) nx (ds ++ [x]) (by omega) (by omega) (by omega)]
theorem listGo_next (s el : ByteArray) (es : List Dcl) : ∀ (f k : Nat) (ds ds' : List Df) (nx : Nat), k ≤ s.size → listGo s el es f k ds = some (ds', nx) → k < nx ∧ nx ≤ s.size
  | 0, _, _, _, _, _, h => by cases h
  | f + 1, k, ds, ds', nx, hk, h => by
    have hb := blanksN_le s k
    rw [listGo] at h
    split at h
    · rename_i hc
      have hr : blanksN s k + 1 ≤ s.size := isAt_room hc
      injection h with h; injection h with _ h
      omega
    · cases e : gapO s k with
      | none => rw [e] at h; cases h
      | some b =>
        have hg := gapO_next e
        rw [e] at h
        simp only [Option.bind_some] at h
        cases e2 : defO s b el es ds with
        | none => rw [e2] at h; cases h
        | some q =>
          obtain ⟨x, n2⟩ := q
          have h2 := defO_next (by omega) e2
          rw [e2] at h
          have := listGo_next s el es f n2 (ds ++ [x]) ds' nx h2.2.1 h
          omega
/-- What stands behind <!ATTLIST. -/
def listO (s : ByteArray) (k : Nat) (es : List Dcl) (ds : List Df) : Option (List Df × Nat) := (gapO s k).bind fun b => (nameO s b).bind fun p => listN s p.1 es p.2 ds
theorem listO_next {s : ByteArray} {k nx : Nat} {es : List Dcl} {ds ds' : List Df} (hk : k ≤ s.size) (h : listO s k es ds = some (ds', nx)) : k < nx ∧ nx ≤ s.size := by
  have hb := blanksN_le s k
  unfold listO at h
  cases e : gapO s k with
  | none => rw [e] at h; cases h
  | some b =>
    have hg := gapO_next e
    rw [e] at h
    simp only [Option.bind_some] at h
    cases e2 : nameO s b with
    | none => rw [e2] at h; cases h
    | some p =>
      obtain ⟨n, k1⟩ := p
      have h2 := nameO_next (by omega) e2
      rw [e2] at h
      have := listGo_next s n es _ k1 ds ds' nx h2.2.1 h
      omega
/-- What stands behind <!--: the place behind the note. -/
def hnoteO (s : ByteArray) (k : Nat) : Option Nat := (toO s ⟨#[45, 45, 62]⟩ k).bind fun q => if noteOk q.1 = true then some q.2 else none
theorem hnoteO_next {s : ByteArray} {k nx : Nat} (hk : k ≤ s.size) (h : hnoteO s k = some nx) : k < nx ∧ nx ≤ s.size := by
  unfold hnoteO at h
  cases e : toO s ⟨#[45, 45, 62]⟩ k with
  | none => rw [e] at h; cases h
  | some q =>
    obtain ⟨t, k1⟩ := q
    have h1 := toO_next hk e
    have h3 : (⟨#[45, 45, 62]⟩ : ByteArray).size = 3 := rfl
    rw [e] at h
    simp only [Option.bind_some] at h
    split at h
    · injection h with h
      omega
    · cases h
def itemsGo (s : ByteArray) : Nat → Nat → List Dcl → List Df → Option (List Dcl × List Df × Nat)
  | 0, _, _, _ => none
  | f + 1, k, es, ds =>
    if isAtB s ⟨#[93]⟩ (blanksN s k : Nat) = true then some (es, ds, blanksN s k + 1)
    else if isAtB s ⟨#[60, 33, 45, 45]⟩ (blanksN s k : Nat) = true then (hnoteO s (blanksN s k + 4)).bind fun p => itemsGo s f p es ds
    else if isAtB s ⟨#[60, 33, 69, 78, 84, 73, 84, 89]⟩ (blanksN s k : Nat) = true then (entO s (blanksN s k + 8) es).bind fun q => itemsGo s f q.2 (es ++ [q.1]) ds
    else if isAtB s ⟨#[60, 33, 65, 84, 84, 76, 73, 83, 84]⟩ (blanksN s k : Nat) = true then (listO s (blanksN s k + 9) es ds).bind fun q => itemsGo s f q.2 es q.1
    else none
theorem itemsGo_fuel (s : ByteArray) : ∀ f f' k es ds, k ≤ s.size → s.size + 1 - k ≤ f → s.size + 1 - k ≤ f' → itemsGo s f k es ds = itemsGo s f' k es ds
  | 0, _, k, _, _, hk, h, _ => by omega
  | _ + 1, 0, k, _, _, hk, _, h => by omega
  | f + 1, f' + 1, k, es, ds, hk, h1, h2 => by
    have hb := blanksN_le s k
    rw [itemsGo, itemsGo]
    split
    · rfl
    split
    · rename_i hc
      have hr : blanksN s k + 4 ≤ s.size := isAt_room hc
      cases e : hnoteO s (blanksN s k + 4) with
      | none => rfl
      | some nx =>
        have := hnoteO_next hr e
        simp only [Option.bind_some]
        exact itemsGo_fuel s f f' nx es ds (by omega) (by omega) (by omega)
    split
    · rename_i hc
      have hr : blanksN s k + 8 ≤ s.size := isAt_room hc
      cases e : entO s (blanksN s k + 8) es with
      | none => rfl
      | some q =>
        obtain ⟨x, nx⟩ := q
        have := entO_next hr e
        simp only [Option.bind_some]
        exact itemsGo_fuel s f f' nx (es ++ [x]) ds (by omega) (by omega) (by omega)
    split
    · rename_i hc
      have hr : blanksN s k + 9 ≤ s.size := isAt_room hc
      cases e : listO s (blanksN s k + 9) es ds with
      | none => rfl
      | some q =>
        obtain ⟨x, nx⟩ := q
        have := listO_next hr e
        simp only [Option.bind_some]
        exact itemsGo_fuel s f f' nx es x (by omega) (by omega) (by omega)
    · rfl
def itemsN (s : ByteArray) (k : Nat) (es : List Dcl) (ds : List Df) : Option (List Dcl × List Df × Nat) := itemsGo s (s.size + 1 - k) k es ds
theorem itemsN_at {s : ByteArray} {k : Nat} {es : List Dcl} {ds : List Df} (hk : k ≤ s.size) : itemsN s k es ds =
    if isAtB s ⟨#[93]⟩ (blanksN s k : Nat) = true then some (es, ds, blanksN s k + 1)
    else if isAtB s ⟨#[60, 33, 45, 45]⟩ (blanksN s k : Nat) = true then (hnoteO s (blanksN s k + 4)).bind fun p => itemsN s p es ds
    else if isAtB s ⟨#[60, 33, 69, 78, 84, 73, 84, 89]⟩ (blanksN s k : Nat) = true then (entO s (blanksN s k + 8) es).bind fun q => itemsN s q.2 (es ++ [q.1]) ds
    else if isAtB s ⟨#[60, 33, 65, 84, 84, 76, 73, 83, 84]⟩ (blanksN s k : Nat) = true then (listO s (blanksN s k + 9) es ds).bind fun q => itemsN s q.2 es q.1
    else none := by
  have hb := blanksN_le s k
  unfold itemsN
  rw [show s.size + 1 - k = (s.size - k) + 1 by omega, itemsGo]
  split
  · rfl
  split
  · rename_i hc
    have hr : blanksN s k + 4 ≤ s.size := isAt_room hc
    cases e : hnoteO s (blanksN s k + 4) with
    | none => rfl
    | some nx =>
      have := hnoteO_next hr e
      simp only [Option.bind_some]
      exact itemsGo_fuel s _ _ nx es ds (by omega) (by omega) (by omega)
  split
  · rename_i hc
    have hr : blanksN s k + 8 ≤ s.size := isAt_room hc
    cases e : entO s (blanksN s k + 8) es with
    | none => rfl
    | some q =>
      obtain ⟨x, nx⟩ := q
      have := entO_next hr e
      simp only [Option.bind_some]
      exact itemsGo_fuel s _ _ nx (es ++ [x]) ds (by omega) (by omega) (by omega)
  split
  · rename_i hc
    have hr : blanksN s k + 9 ≤ s.size := isAt_room hc
    cases e : listO s (blanksN s k + 9) es ds with
    | none => rfl
    | some q =>
      obtain ⟨x, nx⟩ := q
      have := listO_next hr e
      simp only [Option.bind_some]
      exact itemsGo_fuel s _ _ nx es x (by omega) (by omega) (by omega)
  · rfl
structure Hd where
  name : ByteArray
  ents : List Dcl
  defs : List Df
/-- The rest of a head behind its name and blanks: with [ .. ] or without. -/
def restO (s : ByteArray) (k : Nat) : Option (List Dcl × List Df × Nat) :=
  if isAtB s ⟨#[91]⟩ (k : Nat) = true then (itemsN s (k + 1) [] []).map fun q => (q.1, q.2.1, blanksN s q.2.2) else some ([], [], k)
def headO (s : ByteArray) (a : Int) : Option (Hd × Nat) :=
  if isAtB s ⟨#[60, 33, 68, 79, 67, 84, 89, 80, 69]⟩ a = true then
    (gapO s (a.toNat + 9)).bind fun b => (nameO s b).bind fun p => (restO s (blanksN s p.2)).bind fun q =>
      if isAtB s ⟨#[62]⟩ (q.2.2 : Nat) = true then some (⟨p.1, q.1, q.2.1⟩, q.2.2 + 1) else none
  else none
end Go.Proofs.YtmfkdgdamepbcaaGreatDoor
end
section
/- Defs and heads in memory: rows of five cells, a box of three. -/
namespace Go.Proofs.YtmfkdgdamepbcaaGreatDoor
open Go.RowKit Go.Lib
set_option linter.unusedVariables false
set_option linter.unusedSimpArgs false
def Df.cells (d : Df) : List Value := [.string d.el, .string d.at_, .bool d.id, .bool d.has, .string d.val]
def Kd.df : Kd Df := Kd.flat 5 Df.cells (fun _ => rfl)
theorem df_at {w : World} {ok : Nat → Prop} {A : Option Addr} {xs : List Df} (h : Row Kd.df w ok A xs) (i : Nat) (hi : i < xs.length) :
    ∃ b o, A = some ⟨b, o, none⟩ ∧ b < w.heap.size ∧ w.cell? ⟨b, o + i * 5, none⟩ = some (.string (xs[i]'hi).el) ∧ w.cell? ⟨b, o + i * 5 + 1, none⟩ = some (.string (xs[i]'hi).at_) ∧ w.cell? ⟨b, o + i * 5 + 2, none⟩ = some (.bool (xs[i]'hi).id) ∧ w.cell? ⟨b, o + i * 5 + 3, none⟩ = some (.bool (xs[i]'hi).has) ∧ w.cell? ⟨b, o + i * 5 + 4, none⟩ = some (.string (xs[i]'hi).val) := by
  obtain ⟨b, o, cs, hA, hb, _, hk, hc⟩ := h.at_ i hi
  have hk : cs = (xs[i]'hi).cells := hk
  subst hk
  exact ⟨b, o, hA, hb, hc 0 _ rfl, hc 1 _ rfl, hc 2 _ rfl, hc 3 _ rfl, hc 4 _ rfl⟩
section
variable {w w1 : World} {g : Nat} {x0 x1 x2 : Value} {T : TypeId}
theorem cells3 (h : w.heap[g]? = some (.cells #[x0, x1, x2] T (0, 0))) : w.cell? ⟨g, 0, none⟩ = some x0 ∧ w.cell? ⟨g, 1, none⟩ = some x1 ∧ w.cell? ⟨g, 2, none⟩ = some x2 ∧ w.frozen? ⟨g, 0, none⟩ = false ∧ w.frozen? ⟨g, 1, none⟩ = false ∧ w.frozen? ⟨g, 2, none⟩ = false :=
  ⟨cell_of_row w g 0 _ _ _ h, cell_of_row w g 1 _ _ _ h, cell_of_row w g 2 _ _ _ h, frozen_of_row w g 0 _ _ h, frozen_of_row w g 1 _ _ h, frozen_of_row w g 2 _ _ h⟩
theorem put3_0 (h : w.heap[g]? = some (.cells #[x0, x1, x2] T (0, 0))) (v : Value) : ∃ W, W = w.setCell ⟨g, 0, none⟩ v ∧ W.heap[g]? = some (.cells #[v, x1, x2] T (0, 0)) ∧ Moved g w W :=
  ⟨_, rfl, heap_setCell_same w g 0 _ _ _ h, (Moved.refl g w).set⟩
theorem put3_1 (h : w.heap[g]? = some (.cells #[x0, x1, x2] T (0, 0))) (v : Value) : ∃ W, W = w.setCell ⟨g, 1, none⟩ v ∧ W.heap[g]? = some (.cells #[x0, v, x2] T (0, 0)) ∧ Moved g w W :=
  ⟨_, rfl, heap_setCell_same w g 1 _ _ _ h, (Moved.refl g w).set⟩
theorem put3_2 (h : w.heap[g]? = some (.cells #[x0, x1, x2] T (0, 0))) (v : Value) : ∃ W, W = w.setCell ⟨g, 2, none⟩ v ∧ W.heap[g]? = some (.cells #[x0, x1, v] T (0, 0)) ∧ Moved g w W :=
  ⟨_, rfl, heap_setCell_same w g 2 _ _ _ h, (Moved.refl g w).set⟩
end
end Go.Proofs.YtmfkdgdamepbcaaGreatDoor
end
section
/- DefOf of the reference. -/
namespace Go.Proofs.YtmfkdgdamepbcaaGreatDoor
open Go.RowKit Go.Lib
set_option linter.unusedVariables false
set_option linter.unusedSimpArgs false
set_option maxHeartbeats 4000000
set_option maxRecDepth 100000
def dfIs (el at_ : ByteArray) (d : Df) : Bool := decide (d.el = el) && decide (d.at_ = at_)
def dfG (d : Df) : Value := .agg #[.string d.el, .string d.at_, .bool d.id, .bool d.has, .string d.val]
def dfV (o : Option Df) : Value := match o with | some d => .tuple #[dfG d, .bool true] | none => .tuple #[.agg #[.string ⟨#[]⟩, .string ⟨#[]⟩, .bool false, .bool false, .string ⟨#[]⟩], .bool false]
theorem hasDf_find (ds : List Df) (el at_ : ByteArray) : hasDf ds el at_ = (ds.find? (dfIs el at_)).isSome := by
  induction ds with
  | nil => rfl
  | cons x ds ih =>
    unfold hasDf at ih ⊢
    rw [List.any_cons, List.find?_cons, ih]
    show (dfIs el at_ x || _) = _
    cases dfIs el at_ x <;> rfl
theorem find_at {α : Type} {p : α → Bool} : ∀ (xs : List α) (j : Nat) (hj : j < xs.length), (∀ y ∈ xs.take j, p y = false) → p (xs[j]'hj) = true → xs.find? p = some (xs[j]'hj)
  | x :: xs, 0, _, _, h => by
    have h : p x = true := h
    rw [List.find?_cons_of_pos h]; rfl
  | x :: xs, j + 1, hj, hn, h => by
    have h0 : p x = false := hn x (by simp)
    rw [List.find?_cons_of_neg (by simp [h0])]
    exact find_at xs j (by simpa using hj) (fun y hy => hn y (by simp [hy])) h
theorem specDefOf_calls {ok : Nat → Prop} (ds : List Df) (A : Option Addr) (c : Nat) (el at_ : ByteArray) (w : World) (hr : Row Kd.df w ok A ds) :
    Calls Tryz.prog 27 #[.slice A ds.length c, .string el, .string at_] w fun e w' => e = .returned (dfV (ds.find? (dfIs el at_))) ∧ Below w.heap.size w w' := by
  have hmax := hr.max
  obtain ⟨W, hW, HB, hsz, HG⟩ := boxed w #[.string ⟨#[]⟩, .string ⟨#[]⟩, .bool false, .bool false, .string ⟨#[]⟩] 54
  have HW := Aside0.mk hW
  have hrW := Aside0.mk (hr.below HB)
  obtain ⟨R, hR⟩ : ∃ R, R = ds.find? (dfIs el at_) := ⟨_, rfl⟩
  rw [← hR]
  have hR := Aside0.mk hR
  have HB := Aside0.mk HB
  clear hW hr
  obtain ⟨e0, e1, e2, e3, e4, g0, g1, g2, g3, g4⟩ := cells5 HG
  have HO := Aside0.mk (fun v0 v1 v2 v3 v4 => out5 HG v0 v1 v2 v3 v4)
  clear HG
  go_enter Tryz.func27, Tryz.ntmps27
  go_upto_region 1 with fail
  rw [← HW.out]
  go_wp2_with fail
  go_loopg [8] ds.length (fun k i wr => ∃ j : Nat, i = .int .i64 j ∧ j + k = ds.length ∧ Aside (∀ y ∈ ds.take j, dfIs el at_ y = false) ∧ W = wr)
  case atStart => exact ⟨0, rfl, by omega, (fun y hy => by simp at hy), rfl⟩
  case round =>
    obtain ⟨j, rfl, hj, hn, rfl⟩ := hrel
    have hn := Aside0.mk hn
    by_cases hlt : j < ds.length
    · obtain ⟨b, o, rfl, hb, c0, c1, c2, c3, c4⟩ := df_at hrW.out j hlt
      have hji : (j : Int) < (ds.length : Int) := by omega
      by_cases h1 : (ds[j]'hlt).el = el
      · by_cases h2 : (ds[j]'hlt).at_ = at_
        · have hfin := Aside0.mk (show R = some (ds[j]'hlt) by rw [hR.out]; exact find_at ds j hlt hn.out (by unfold dfIs; rw [decide_eq_true h1, decide_eq_true h2]; rfl))
          obtain ⟨d, hd⟩ : ∃ d, d = ds[j]'hlt := ⟨_, rfl⟩
          rw [← hd] at hfin c0 c1 c2 c3 c4 h1 h2
          have hfin := Aside0.mk (show R = some ⟨el, at_, d.id, d.has, d.val⟩ by rw [hfin.out, ← h1, ← h2])
          rw [h1] at c0
          rw [h2] at c1
          clear hd h1 h2 hn
          go_wp2
          obtain ⟨X, hX, hXg, hXm⟩ := HO.out (.string el) (.string at_) (.bool d.id) (.bool d.has) (.string d.val)
          rw [← hX]
          clear hX e0 e1 e2 e3 e4 g0 g1 g2 g3 g4
          obtain ⟨p0, p1, p2, p3, p4, _⟩ := cells5 hXg
          refine bodyPost_ret (v := .tuple #[.agg #[.string el, .string at_, .bool d.id, .bool d.has, .string d.val], .bool true]) ?hres rfl ⟨by rw [hfin.out]; rfl, below_moved HB.out hXm (Nat.le_refl _)⟩
          case hres => simp [results, Tryz.results27, go_sem, p0, p1, p2, p3, p4]
        · have hn' := Aside0.mk (take_miss (p := dfIs el at_) hlt hn.out (by unfold dfIs; rw [decide_eq_true h1, decide_eq_false h2]; rfl))
          have n2 := str_neb h2
          rw [h1] at c0
          clear h1 h2 hn
          go_wp2
          go_roundg (gk - 1)
          case measure => omega
          case rel => exact ⟨j + 1, by go_num, by omega, hn'.out, rfl⟩
      · have hn' := Aside0.mk (take_miss (p := dfIs el at_) hlt hn.out (by unfold dfIs; rw [decide_eq_false h1]; rfl))
        have n1 := str_neb h1
        clear h1 hn
        go_wp2
        go_roundg (gk - 1)
        case measure => omega
        case rel => exact ⟨j + 1, by go_num, by omega, hn'.out, rfl⟩
    · obtain rfl : j = ds.length := by omega
      have hfin := Aside0.mk (show R = none by
        rw [hR.out]
        refine List.find?_eq_none.2 fun y hy => ?_
        have := hn.out
        rw [List.take_length] at this
        rw [this y hy]; decide)
      clear hn
      go_wp2
      obtain ⟨X, hX, hXg, hXm⟩ := HO.out (.string ⟨#[]⟩) (.string ⟨#[]⟩) (.bool false) (.bool false) (.string ⟨#[]⟩)
      rw [← hX]
      clear hX e0 e1 e2 e3 e4 g0 g1 g2 g3 g4
      obtain ⟨p0, p1, p2, p3, p4, _⟩ := cells5 hXg
      refine bodyPost_ret (v := .tuple #[.agg #[.string ⟨#[]⟩, .string ⟨#[]⟩, .bool false, .bool false, .string ⟨#[]⟩], .bool false]) ?hres rfl ⟨by rw [hfin.out]; rfl, below_moved HB.out hXm (Nat.le_refl _)⟩
      case hres => simp [results, Tryz.results27, go_sem, p0, p1, p2, p3, p4]
end Go.Proofs.YtmfkdgdamepbcaaGreatDoor
end
section
/- Heads in memory: a box of three cells, Ents and Defs of the call's own that grow. -/
namespace Go.Proofs.YtmfkdgdamepbcaaGreatDoor
open Go.RowKit Go.Lib
set_option linter.unusedVariables false
set_option linter.unusedSimpArgs false
theorem hown_moved {size n base g : Nat} {e : TypeId} {v : Value} {cells : List Value} {w w1 : World} (h : w.ownsRow base e size v n cells) (hm : Moved g w w1) (hg : g < base) : w1.ownsRow base e size v n cells := by
  obtain ⟨hcl, hh⟩ := h
  refine ⟨hcl, ?_⟩
  rcases hh with hh | ⟨b, cap, cur, rfl, hb, hh, hl⟩
  · exact .inl hh
  · exact .inr ⟨b, cap, cur, rfl, hb, (hm.block b (Array.getElem?_eq_some_iff.1 hh).1 (by omega)).trans hh, hl⟩
theorem hown_grown {base size n : Nat} {e : TypeId} {v : Value} {cells : List Value} {w w1 : World} {ob : Option Nat} (h : w.ownsRow base e size v n cells) (hg : w.grownBy w1 ob) (hne : ∀ k, v.ownBlock = some k → ¬ ob = some k) : w1.ownsRow base e size v n cells := by
  obtain ⟨hcl, hh⟩ := h
  refine ⟨hcl, ?_⟩
  rcases hh with hh | ⟨g, cap, cur, rfl, hb', hh, hl⟩
  · exact .inl hh
  · exact .inr ⟨g, cap, cur, rfl, hb', (hg.block g (Array.getElem?_eq_some_iff.1 hh).1 (fun e => hne g rfl e.symm)).trans hh, hl⟩
theorem hmoved_by {g : Nat} {w w1 : World} (h : Moved g w w1) : w.grownBy w1 (some g) := ⟨h.os, h.tape, h.output, h.size, fun k hk hne => h.block k hk (fun e => hne (by rw [e]))⟩
theorem ents_row {w : World} {base : Nat} {e : TypeId} {v : Value} {xs : List Dcl} (h : w.ownsRow base e 2 v xs.length (xs.flatMap Dcl.cells)) : ∃ A c, v = .slice A xs.length c ∧ xs.length ≤ c ∧ Row Kd.dcl w (fun k => base ≤ k) A xs := by
  have h' := flat_own (enc := Dcl.cells) (n := 2) (hn := fun _ => rfl) (ok := fun k => base ≤ k) h
  exact h'.row (ok' := fun k => base ≤ k) (fun _ h => h) (fun k hk => (h'.base_le k hk).1)
theorem defs_row {w : World} {base : Nat} {e : TypeId} {v : Value} {xs : List Df} (h : w.ownsRow base e 5 v xs.length (xs.flatMap Df.cells)) : ∃ A c, v = .slice A xs.length c ∧ xs.length ≤ c ∧ Row Kd.df w (fun k => base ≤ k) A xs := by
  have h' := flat_own (enc := Df.cells) (n := 5) (hn := fun _ => rfl) (ok := fun k => base ≤ k) h
  exact h'.row (ok' := fun k => base ≤ k) (fun _ h => h) (fun k hk => (h'.base_le k hk).1)
/-- Block g holds a head. -/
structure HdAt (w : World) (base g : Nat) (name : ByteArray) (vE vD : Value) (es : List Dcl) (ds : List Df) : Prop where
  heap : w.heap[g]? = some (.cells #[.string name, vE, vD] 48 (0, 0))
  lt : g < base
  le : base ≤ w.heap.size
  hE : w.ownsRow base 57 2 vE es.length (es.flatMap Dcl.cells)
  hD : w.ownsRow base 54 5 vD ds.length (ds.flatMap Df.cells)
  ne : ∀ k, vE.ownBlock = some k → ¬ vD.ownBlock = some k
/-- Of the blocks below base only g changes. -/
structure Hg (base g : Nat) (w w' : World) : Prop where
  os : w'.os = w.os
  tape : w'.tape = w.tape
  output : w'.output = w.output
  size : w.heap.size ≤ w'.heap.size
  block : ∀ k, k < w.heap.size → k < base → k ≠ g → w'.heap[k]? = w.heap[k]?
theorem Hg.of {base g : Nat} {w w' : World} {ob : Option Nat} (hg : w.grownBy w' ob) (hv : ∀ k, ob = some k → base ≤ k) (o : Nat) (u : Value) : Hg base g w (w'.setCell ⟨g, o, none⟩ u) :=
  ⟨hg.os, hg.tape, hg.output, by simpa [World.setCell] using hg.size, fun k hk hb hne => (Below.heap_setCell _ _ _ _ hne).trans (hg.block k hk (fun e => by have := hv k e.symm; omega))⟩
theorem Hg.ofMoved {base g : Nat} {w w' : World} (h : Moved g w w') : Hg base g w w' := ⟨h.os, h.tape, h.output, h.size, fun k hk _ hne => h.block k hk hne⟩
theorem Hg.trans {base g : Nat} {a b c : World} (h : Hg base g a b) (k : Hg base g b c) : Hg base g a c :=
  ⟨k.os.trans h.os, k.tape.trans h.tape, k.output.trans h.output, Nat.le_trans h.size k.size, fun j hj hb hne => (k.block j (Nat.lt_of_lt_of_le hj h.size) hb hne).trans (h.block j hj hb hne)⟩
theorem Hg.below {base g n0 : Nat} {w w' : World} (h : Hg base g w w') (hb : n0 ≤ base) (hg : n0 ≤ g) (hn : n0 ≤ w.heap.size) : Below n0 w w' :=
  ⟨h.os, h.tape, h.output, h.size, fun k hk => h.block k (by omega) (by omega) (by omega)⟩
section
variable {w w1 w' : World} {base g g2 : Nat} {name n x : ByteArray} {vE vD v' : Value} {es : List Dcl} {ds : List Df} {d : Df}
theorem HdAt.glt (h : HdAt w base g name vE vD es ds) : g < w.heap.size := (Array.getElem?_eq_some_iff.1 h.heap).1
theorem HdAt.moved (h : HdAt w base g name vE vD es ds) (hm : Moved g2 w w1) (hne : g ≠ g2) (hg : g2 < base) : HdAt w1 base g name vE vD es ds :=
  ⟨(hm.block g h.glt hne).trans h.heap, h.lt, Nat.le_trans h.le hm.size, hown_moved h.hE hm hg, hown_moved h.hD hm hg, h.ne⟩
theorem HdAt.below (h : HdAt w base g name vE vD es ds) (hb : Below w.heap.size w w1) : HdAt w1 base g name vE vD es ds :=
  ⟨(hb.block g h.glt).trans h.heap, h.lt, Nat.le_trans h.le hb.size, own_below h.hE hb, own_below h.hD hb, h.ne⟩
theorem HdAt.cells (h : HdAt w base g name vE vD es ds) : w.cell? ⟨g, 0, none⟩ = some (.string name) ∧ w.cell? ⟨g, 1, none⟩ = some vE ∧ w.cell? ⟨g, 2, none⟩ = some vD ∧ w.frozen? ⟨g, 0, none⟩ = false ∧ w.frozen? ⟨g, 1, none⟩ = false ∧ w.frozen? ⟨g, 2, none⟩ = false := cells3 h.heap
theorem HdAt.ents (h : HdAt w base g name vE vD es ds) : ∃ A c, vE = .slice A es.length c ∧ es.length ≤ c ∧ Row Kd.dcl w (fun k => base ≤ k) A es := ents_row h.hE
theorem HdAt.defs (h : HdAt w base g name vE vD es ds) : ∃ A c, vD = .slice A ds.length c ∧ ds.length ≤ c ∧ Row Kd.df w (fun k => base ≤ k) A ds := defs_row h.hD
theorem HdAt.addE (h : HdAt w base g name vE vD es ds) (hown : w'.ownsRow base 57 2 v' (es.length + 1) (es.flatMap Dcl.cells ++ [.string n, .string x])) (hg : w.grownBy w' vE.ownBlock)
    (hat : v'.ownBlock = vE.ownBlock ∨ v'.ownBlock = some w.heap.size) : HdAt (w'.setCell ⟨g, 1, none⟩ v') base g name v' vD (es ++ [⟨n, x⟩]) ds := by
  have hp : w'.heap[g]? = some (.cells #[.string name, vE, vD] 48 (0, 0)) := (hg.block g h.glt (fun e => by have := (h.hE.lt g e.symm).1; have := h.lt; omega)).trans h.heap
  have hm : Moved g w' (w'.setCell ⟨g, 1, none⟩ v') := (Moved.refl _ _).set
  refine ⟨heap_setCell_same _ g 1 _ _ _ hp, h.lt, Nat.le_trans h.le (Nat.le_trans hg.size hm.size), ?_, hown_moved (hown_grown h.hD hg (fun k hk e => h.ne k e hk)) hm h.lt, fun k hk e => ?_⟩
  · have e : (es ++ [(⟨n, x⟩ : Dcl)]).flatMap Dcl.cells = es.flatMap Dcl.cells ++ [.string n, .string x] := by rw [List.flatMap_append]; rfl
    rw [List.length_append, List.length_singleton, e]
    exact hown_moved hown hm h.lt
  · rcases hat with hat | hat
    · exact h.ne k (hat ▸ hk) e
    · rw [hat] at hk
      injection hk with hk
      have := (h.hD.lt k e).2
      omega
theorem HdAt.addD (h : HdAt w base g name vE vD es ds) (hown : w'.ownsRow base 54 5 v' (ds.length + 1) (ds.flatMap Df.cells ++ d.cells)) (hg : w.grownBy w' vD.ownBlock)
    (hat : v'.ownBlock = vD.ownBlock ∨ v'.ownBlock = some w.heap.size) : HdAt (w'.setCell ⟨g, 2, none⟩ v') base g name vE v' es (ds ++ [d]) := by
  have hp : w'.heap[g]? = some (.cells #[.string name, vE, vD] 48 (0, 0)) := (hg.block g h.glt (fun e => by have := (h.hD.lt g e.symm).1; have := h.lt; omega)).trans h.heap
  have hm : Moved g w' (w'.setCell ⟨g, 2, none⟩ v') := (Moved.refl _ _).set
  refine ⟨heap_setCell_same _ g 2 _ _ _ hp, h.lt, Nat.le_trans h.le (Nat.le_trans hg.size hm.size), hown_moved (hown_grown h.hE hg (fun k hk e => h.ne k hk e)) hm h.lt, ?_, fun k hk e => ?_⟩
  · have e : (ds ++ [d]).flatMap Df.cells = ds.flatMap Df.cells ++ d.cells := by rw [List.flatMap_append]; simp
    rw [List.length_append, List.length_singleton, e]
    exact hown_moved hown hm h.lt
  · rcases hat with hat | hat
    · exact h.ne k hk (hat ▸ e)
    · rw [hat] at e
      injection e with e
      have := (h.hE.lt k hk).2
      omega
end
theorem df_one (d : Df) : ∀ u ∈ d.cells, u.oneCell' = true := by
  intro u hu
  simp only [Df.cells, List.mem_cons, List.not_mem_nil, or_false] at hu
  rcases hu with rfl | rfl | rfl | rfl | rfl <;> rfl
theorem df_news (W : World) (d : Df) (T : TypeId) : ∀ j u, d.cells[j]? = some u → (W.alloc (.cells d.cells.toArray T (0, 0))).cell? ((⟨W.heap.size, 0, none⟩ : Addr).add j) = some u := by
  intro j u hj
  have hg : (W.alloc (.cells d.cells.toArray T (0, 0))).heap[W.heap.size]? = some (.cells d.cells.toArray T (0, 0)) := Array.getElem?_push_size
  rw [Addr.add_lit, cell_of_row _ _ _ _ _ _ hg, Nat.zero_add, ← hj]
  simp [List.getElem?_toArray]
theorem Tryz.info_Def : (Tryz.prog.info? 54).map (fun i => (i.zero, i.size, i.bytes)) = some (some (.agg #[.string ⟨#[]⟩, .string ⟨#[]⟩, .bool false, .bool false, .string ⟨#[]⟩]), 5, 56) := by kernel_rfl
section
variable {P : Program} {w : World}
/-- As step_app_at; and where it lies. -/
theorem step_app_in {ops : Array Oper} {o : Oper} {a : Act} {K : Act → World → Prop} {Q : Exit → Act → World → Prop} {E : Prop} (hgd : o.guard = none) (s x : Operand) (t : TypeId)
    (ho : o.op = .call { callee := .builtin .append, args := #[s, x], argTypes := #[t, t] })
    (base : Nat) (e : TypeId) (i : TypeInfo) (z : Value) (size bytes : Nat) (ht : P.underlying t = some (.slice e)) (hi : P.info? e = some i) (hz : i.zero = some z)
    (hsize : i.size = size) (hby : i.bytes = bytes) (hzs : z.cells.size = size) (hsz : 0 < size)
    (v : Value) (n : Nat) (xs : List Value) (hs : a.eval s = v) (hown : w.ownsRow base e size v n xs)
    (ad : Addr) (m c : Nat) (news : List Value) (hx : a.eval x = .slice (some ad) m c) (hl : news.length = m * size) (hnews : ∀ j u, news[j]? = some u → w.cell? (ad.add j) = some u) (h1 : ∀ u ∈ news, u.oneCell' = true)
    (h63 : n + m ≤ maxLen) (hbytes : (n + m) * bytes ≤ 140737488355328) (hbase : base ≤ w.heap.size)
    (h : ∀ v' w', w'.ownsRow base e size v' (n + m) (xs ++ news) → w.grownBy w' v.ownBlock → (v'.ownBlock = v.ownBlock ∨ v'.ownBlock = some w.heap.size) → K (a.put o.dst v') w') :
    if Region.wanted o (yielded ops a.tmps) = true then Oper.wp P o a w K Q else E := by
  have hw : Region.wanted o (yielded ops a.tmps) = true := by simp [Region.wanted, hgd]
  rw [if_pos hw]
  obtain ⟨v', w', hr, h2, h3, _, h4⟩ := run_append_own_at (P := P) w base t o.type e i z size bytes ht hi hz hsize hby hzs hsz v n xs hown ad m c news hl hnews h1 h63 hbytes hbase
  unfold Oper.wp execOp
  simp only [ho, resolve, invoke, builtin, Sem.run_bind, Sem.run_pure, Result.andThen_ok, List.map_toArray, List.map_cons, List.map_nil, hs, hx, hr]
  exact h v' w' h2 h3 h4
end
end Go.Proofs.YtmfkdgdamepbcaaGreatDoor
end
section
/- DefOf of the program. -/
namespace Go.Proofs.YtmfkdgdamepbcaaGreatDoor
open Go.RowKit Go.Lib
set_option linter.unusedVariables false
set_option linter.unusedSimpArgs false
set_option maxHeartbeats 4000000
set_option maxRecDepth 100000
theorem idx_find {α : Type} (p : α → Bool) : ∀ (xs : List α), (idxB p xs = -1 ∧ xs.find? p = none) ∨ ∃ (j : Nat) (hj : j < xs.length), idxB p xs = (j : Int) ∧ xs.find? p = some (xs[j]'hj)
  | [] => .inl ⟨rfl, rfl⟩
  | x :: xs => by
    by_cases h : p x = true
    · exact .inr ⟨0, by simp, by rw [idxB, if_pos h]; rfl, by rw [List.find?_cons_of_pos h]; rfl⟩
    · rcases idx_find p xs with ⟨h1, h2⟩ | ⟨j, hj, h1, h2⟩
      · exact .inl ⟨by rw [idxB, if_neg h, h1]; rfl, by rw [List.find?_cons_of_neg h, h2]⟩
      · refine .inr ⟨j + 1, by simpa using hj, ?_, by rw [List.find?_cons_of_neg h, h2]; rfl⟩
        rw [idxB, if_neg h, h1, if_neg (by omega)]
        omega
theorem defIs_calls (d : Df) (el at_ : ByteArray) (g1 g2 : Nat) (w : World) (h1 : w.cell? ⟨g1, 0, none⟩ = some (.string el)) (hg1 : g1 < w.heap.size) (h2 : w.cell? ⟨g2, 0, none⟩ = some (.string at_)) (hg2 : g2 < w.heap.size) :
    Calls Tryz.prog 70 #[.agg #[.string d.el, .string d.at_, .bool d.id, .bool d.has, .string d.val], .pointer (some ⟨g1, 0, none⟩), .pointer (some ⟨g2, 0, none⟩)] w fun r w' => r = .returned (.bool (dfIs el at_ d)) ∧ Below w.heap.size w w' := by
  obtain ⟨W, hW, HB, hsz, HG⟩ := boxed w #[.string d.el, .string d.at_, .bool d.id, .bool d.has, .string d.val] 54
  obtain ⟨c0, c1, c2, c3, c4, _⟩ := cells5 HG
  have cp := ((bcell HB).1 g1 0 hg1).trans h1
  have cq := ((bcell HB).1 g2 0 hg2).trans h2
  obtain ⟨x, hx⟩ : ∃ q, q = d.el := ⟨_, rfl⟩
  obtain ⟨y, hy⟩ : ∃ q, q = d.at_ := ⟨_, rfl⟩
  have hd : dfIs el at_ d = (decide (x = el) && decide (y = at_)) := by rw [hx, hy]; rfl
  rw [hd]
  rw [← hx] at c0 hW ⊢
  rw [← hy] at c1 hW ⊢
  have HW := Aside0.mk hW
  clear hW
  clear HG h1 h2 hx hy hd
  by_cases e1 : x = el
  · by_cases e2 : y = at_
    · rw [decide_eq_true e1, decide_eq_true e2]
      subst e1 e2
      go_enter Tryz.func70, Tryz.ntmps70
      go_upto_region 1 with fail
      rw [← HW.out]
      go_wp2
      go_ret
      exact ⟨rfl, HB⟩
    · rw [show (decide (x = el) && decide (y = at_)) = false by rw [decide_eq_false e2, Bool.and_false]]
      have n1 := str_neb e2
      subst e1
      clear e2
      go_enter Tryz.func70, Tryz.ntmps70
      go_upto_region 1 with fail
      rw [← HW.out]
      go_wp2
      go_ret
      exact ⟨rfl, HB⟩
  · rw [show (decide (x = el) && decide (y = at_)) = false by rw [decide_eq_false e1, Bool.false_and]]
    have n1 := str_neb e1
    clear e1
    go_enter Tryz.func70, Tryz.ntmps70
    go_upto_region 1 with fail
    rw [← HW.out]
    go_wp2
    go_ret
    exact ⟨rfl, HB⟩
theorem IndexFunc_df {ok : Nat → Prop} (p : Df → Bool) (g : Nat) (lb : Array Value) (eg : ∀ args w, (callFunc g args).run Tryz.prog w = .ok (.enter g args) w) (A : Option Addr) (xs : List Df) (c : Nat) (w : World)
    (h : Row Kd.df w ok A xs) (hp : ∀ W x, x ∈ xs → Below w.heap.size w W → Calls Tryz.prog g (#[.agg #[.string x.el, .string x.at_, .bool x.id, .bool x.has, .string x.val]] ++ lb) W fun e w' => e = .returned (.bool (p x)) ∧ Below W.heap.size W w') :
    Calls Tryz.prog 69 #[.slice A xs.length c, .func (.func g) #[] lb] w fun e w' => e = .returned (.int .i64 (idxB p xs)) ∧ Below w.heap.size w w' := by
  have hm := h.max
  go_enter Tryz.func69, Tryz.ntmps69
  go_wp2
  go_loopg [5, 8] xs.length (fun k _ i wr => ∃ (j : Nat), i = .int .i64 j ∧ j + k = xs.length ∧ Aside (∀ y ∈ xs.take j, p y = false) ∧ Below w.heap.size w wr)
  case atStart => exact ⟨0, rfl, by omega, (fun y hy => by simp at hy), Below.refl _ _⟩
  case round =>
    obtain ⟨j, rfl, hk, ha, hb⟩ := hrel
    by_cases hlt : j < xs.length
    · obtain ⟨b, o, rfl, hbl, d0, d1, d2, d3, d4⟩ := df_at (h.below hb) j hlt
      have hcall := hp wr xs[j] (List.getElem_mem hlt) hb
      clear h hp
      cases hq : p xs[j] with
      | true =>
        have hfin := Aside0.mk (idxB_hit p xs j hlt ha.out hq)
        rw [hq] at hcall
        clear hq
        go_wp2_with (go_at_fn g; refine hcall.mono ?_; rintro e w' ⟨rfl, hb'⟩)
        go_ret
        exact ⟨by rw [hfin.out]; rfl, below_then hb hb'⟩
      | false =>
        have hfin := Aside0.mk (take_miss hlt ha.out hq)
        rw [hq] at hcall
        clear hq
        go_wp2_with (go_at_fn g; refine hcall.mono ?_; rintro e w' ⟨rfl, hb'⟩)
        go_roundg (gk - 1)
        case measure => omega
        case rel => exact ⟨j + 1, by go_num, by omega, hfin.out, below_then hb hb'⟩
    · obtain rfl : j = xs.length := by omega
      have hfin := Aside0.mk (idxB_miss p xs (by have := ha.out; rwa [List.take_length] at this))
      clear ha
      go_wp2
      go_ret
      exact ⟨by rw [hfin.out]; rfl, hb⟩
theorem def_boxes {w W3 : World} {el at_ : ByteArray} {r g : Nat} (hr : r = w.heap.size + 1) (hg : g = w.heap.size + 1 + 1) (hW3 : W3 = ((w.alloc (.cells #[.string el] 9 (0, 0))).alloc (.cells #[.string at_] 9 (0, 0))).alloc (.cells #[.string ⟨#[]⟩, .string ⟨#[]⟩, .bool false, .bool false, .string ⟨#[]⟩] 54 (0, 0))) :
    W3.cell? ⟨w.heap.size, 0, none⟩ = some (.string el) ∧ W3.cell? ⟨r, 0, none⟩ = some (.string at_) ∧ W3.heap[g]? = some (.cells #[.string ⟨#[]⟩, .string ⟨#[]⟩, .bool false, .bool false, .string ⟨#[]⟩] 54 (0, 0)) ∧ Below w.heap.size w W3 ∧ W3.heap.size = g + 1 := by
  obtain ⟨W1, hW1⟩ : ∃ W, W = w.alloc (.cells #[.string el] 9 (0, 0)) := ⟨_, rfl⟩
  obtain ⟨W2, hW2⟩ : ∃ W, W = W1.alloc (.cells #[.string at_] 9 (0, 0)) := ⟨_, rfl⟩
  rw [← hW1, ← hW2] at hW3
  have s1 : W1.heap.size = w.heap.size + 1 := by rw [hW1]; exact Array.size_push _
  have s2 : W2.heap.size = w.heap.size + 1 + 1 := by rw [hW2]; exact (Array.size_push _).trans (by rw [s1])
  have s3 : W3.heap.size = w.heap.size + 1 + 1 + 1 := by rw [hW3]; exact (Array.size_push _).trans (by rw [s2])
  have b1 : Below w.heap.size w W1 := by rw [hW1]; exact below_alloc (Below.refl _ _) _
  have b2 : Below W1.heap.size W1 W2 := by rw [hW2]; exact below_alloc (Below.refl _ _) _
  have b3 : Below W2.heap.size W2 W3 := by rw [hW3]; exact below_alloc (Below.refl _ _) _
  have h1 : W1.heap[w.heap.size]? = some (.cells #[.string el] 9 (0, 0)) := by rw [hW1]; exact Array.getElem?_push_size
  have h2 : W2.heap[W1.heap.size]? = some (.cells #[.string at_] 9 (0, 0)) := by rw [hW2]; exact Array.getElem?_push_size
  have h3 : W3.heap[W2.heap.size]? = some (.cells #[.string ⟨#[]⟩, .string ⟨#[]⟩, .bool false, .bool false, .string ⟨#[]⟩] 54 (0, 0)) := by rw [hW3]; exact Array.getElem?_push_size
  rw [s1, ← hr] at h2
  rw [s2, ← hg] at h3
  have h1 := ((below_then b2 b3).block w.heap.size (by omega)).trans h1
  have h2 := (b3.block r (by omega)).trans h2
  exact ⟨cell_of_row _ _ 0 _ _ _ h1, cell_of_row _ _ 0 _ _ _ h2, h3, below_then b1 (below_then b2 b3), by omega⟩
theorem implDefOf_calls {ok : Nat → Prop} (ds : List Df) (A : Option Addr) (c : Nat) (el at_ : ByteArray) (w : World) (hr : Row Kd.df w ok A ds) :
    Calls Tryz.prog 26 #[.slice A ds.length c, .string el, .string at_] w fun e w' => e = .returned (dfV (ds.find? (dfIs el at_))) ∧ Below w.heap.size w w' := by
  obtain ⟨r, hrr⟩ : ∃ r, r = w.heap.size + 1 := ⟨_, rfl⟩
  obtain ⟨g, hgg⟩ : ∃ g, g = w.heap.size + 1 + 1 := ⟨_, rfl⟩
  obtain ⟨W3, hW3⟩ : ∃ W, W = ((w.alloc (.cells #[.string el] 9 (0, 0))).alloc (.cells #[.string at_] 9 (0, 0))).alloc (.cells #[.string ⟨#[]⟩, .string ⟨#[]⟩, .bool false, .bool false, .string ⟨#[]⟩] 54 (0, 0)) := ⟨_, rfl⟩
  obtain ⟨x1, x2, HG, HB, s3⟩ := def_boxes hrr hgg hW3
  have hmax := hr.max
  have HI := Aside0.mk (IndexFunc_df (dfIs el at_) 70 #[.pointer (some ⟨w.heap.size, 0, none⟩), .pointer (some ⟨r, 0, none⟩)] (enters_of Tryz.func70 (by kernel_rfl) rfl) A ds c W3 (hr.below HB)
    (fun W' x hx hb => defIs_calls x el at_ w.heap.size r W' (((bcell hb).1 _ 0 (by omega)).trans x1) (by have := hb.size; omega) (((bcell hb).1 _ 0 (by omega)).trans x2) (by have := hb.size; omega)))
  have RG := Aside0.mk (fun W (hb : Below W3.heap.size W3 W) => (hb.block g (by omega)).trans HG)
  have HR := Aside0.mk (fun W (hb : Below W3.heap.size W3 W) => hr.below (below_then HB hb))
  have HB := Aside0.mk HB
  have HW3 := Aside0.mk hW3
  have Hr := Aside0.mk hrr
  have Hg := Aside0.mk hgg
  have hgl : w.heap.size ≤ g := by omega
  obtain ⟨R, hR⟩ : ∃ R, R = ds.find? (dfIs el at_) := ⟨_, rfl⟩
  have hcs := idx_find (dfIs el at_) ds
  rw [← hR] at hcs ⊢
  clear hR hW3 x1 x2 HG hr
  rcases hcs with ⟨h1, h2⟩ | ⟨j, hj, h1, h2⟩
  · have hfin := Aside0.mk h2
    rw [h1] at HI
    clear h1 h2
    go_enter Tryz.func26, Tryz.ntmps26
    go_upto_region 1 with fail
    rw [← HW3.out, ← Hg.out, ← Hr.out]
    clear hrr hgg
    go_wp2_with fail
    refine (HI.out).mono ?_
    rintro e w1 ⟨rfl, hb1⟩
    obtain ⟨e0, e1, e2, e3, e4, g0, g1, g2, g3, g4⟩ := cells5 (RG.out _ hb1)
    have HO := Aside0.mk (out5 (RG.out _ hb1) (.string ⟨#[]⟩) (.string ⟨#[]⟩) (.bool false) (.bool false) (.string ⟨#[]⟩))
    go_wp2
    obtain ⟨X, hX, hXg, hXm⟩ := HO.out
    rw [← hX]
    clear hX e0 e1 e2 e3 e4 g0 g1 g2 g3 g4
    obtain ⟨p0, p1, p2, p3, p4, _⟩ := cells5 hXg
    refine bodyPost_ret (v := .tuple #[.agg #[.string ⟨#[]⟩, .string ⟨#[]⟩, .bool false, .bool false, .string ⟨#[]⟩], .bool false]) ?hres rfl ⟨by rw [hfin.out]; rfl, below_moved (below_then HB.out hb1) hXm hgl⟩
    case hres => simp [results, Tryz.results26, go_sem, p0, p1, p2, p3, p4]
  · have hfin := Aside0.mk h2
    rw [h1] at HI
    clear h1 h2
    go_enter Tryz.func26, Tryz.ntmps26
    go_upto_region 1 with fail
    rw [← HW3.out, ← Hg.out, ← Hr.out]
    clear hrr hgg
    go_wp2_with fail
    refine (HI.out).mono ?_
    rintro e w1 ⟨rfl, hb1⟩
    obtain ⟨b, o, rfl, hb, c0, c1, c2, c3, c4⟩ := df_at (HR.out _ hb1) j hj
    obtain ⟨d, hd⟩ : ∃ d, d = ds[j]'hj := ⟨_, rfl⟩
    rw [← hd] at hfin c0 c1 c2 c3 c4
    clear hd
    have hji : (j : Int) < (ds.length : Int) := by omega
    have hj0 : ¬ ((j : Int) < 0) := by omega
    obtain ⟨e0, e1, e2, e3, e4, g0, g1, g2, g3, g4⟩ := cells5 (RG.out _ hb1)
    have HO := Aside0.mk (out5 (RG.out _ hb1) (.string d.el) (.string d.at_) (.bool d.id) (.bool d.has) (.string d.val))
    go_wp2
    obtain ⟨X, hX, hXg, hXm⟩ := HO.out
    rw [← hX]
    clear hX e0 e1 e2 e3 e4 g0 g1 g2 g3 g4
    obtain ⟨p0, p1, p2, p3, p4, _⟩ := cells5 hXg
    refine bodyPost_ret (v := .tuple #[.agg #[.string d.el, .string d.at_, .bool d.id, .bool d.has, .string d.val], .bool true]) ?hres rfl ⟨by rw [hfin.out]; rfl, below_moved (below_then HB.out hb1) hXm hgl⟩
    case hres => simp [results, Tryz.results26, go_sem, p0, p1, p2, p3, p4]
end Go.Proofs.YtmfkdgdamepbcaaGreatDoor
end
