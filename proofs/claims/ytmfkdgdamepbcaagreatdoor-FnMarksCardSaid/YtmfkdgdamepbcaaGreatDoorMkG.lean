/- A mark goes on behind the place where it stands; what it holds is text. -/
import Derived.Test.YtmfkdgdamepbcaaGreatDoorScnP
import Derived.Test.YtmfkdgdamepbcaaGreatDoorScB
namespace Go.Proofs.YtmfkdgdamepbcaaGreatDoor
open Go.RowKit Go.Lib
set_option linter.unusedVariables false
set_option linter.unusedSimpArgs false
theorem isAt_of {s : ByteArray} {x : UInt8} {b : Nat} (hb : b < s.size) (h : bt s b = x.toNat) : isAtB s ⟨#[x]⟩ (b : Nat) = true := by
  rw [isAt_occ (by omega)]
  have hl : b < s.data.toList.length := by rw [str_size]; omega
  show occAt s.data.toList [x] b = true
  unfold occAt
  rw [List.drop_eq_getElem_cons hl]
  have e : s.data.toList[b] = x := by
    have e2 := bt_get s b hb
    rw [h] at e2
    apply UInt8.toNat_inj.1
    rw [← e2]
    simp
    rfl
  rw [e]
  simp [List.isPrefixOf]
theorem rawO_text {s : ByteArray} {a nx : Nat} {l : List Dcl} {x : Dcl} (h : rawO s a l = some (x, nx)) : textOk x.uri = true := by
  unfold rawO at h
  cases e : nameO s a with
  | none => rw [e] at h; cases h
  | some p =>
    rw [e] at h
    simp only [Option.bind_some] at h
    split at h
    · cases e2 : quoO s (blanksN s (blanksN s p.2 + 1)) with
      | none => rw [e2] at h; cases h
      | some q =>
        rw [e2] at h
        simp only [Option.bind_some] at h
        cases e3 : expandV (spacedB q.1) l with
        | none => rw [e3] at h; cases h
        | some y =>
          rw [e3] at h
          simp only [Option.map_some] at h
          injection h with h
          injection h with h4 h5
          rw [← h4]
          exact expand_text e3
    · cases h
/-- What is asked of a mark that stands at a: it goes on behind it, and its values are text. -/
def MkGood (s : ByteArray) (a : Nat) (m : Mk) (p : Nat) : Prop := a < p ∧ p ≤ s.size ∧ ∀ d ∈ m.raws, textOk d.uri = true
theorem opGo_good (s : ByteArray) (l : List Dcl) (n : ByteArray) : ∀ (f k : Nat) (rs : List Dcl) (m : Mk) (p : Nat), k ≤ s.size → (∀ d ∈ rs, textOk d.uri = true) → opGo s l n f k rs = some (m, p) → k < p ∧ p ≤ s.size ∧ ∀ d ∈ m.raws, textOk d.uri = true
  | 0, _, _, _, _, _, _, h => by cases h
  | f + 1, k, rs, m, p, hk, hrs, h => by
    have hb := blanksN_le s k
    rw [opGo] at h
    split at h
    · rename_i hi
      have hr : blanksN s k + 2 ≤ s.size := isAt_room hi
      injection h with h; injection h with h h2; rw [← h, ← h2]; exact ⟨by omega, hr, hrs⟩
    · split at h
      · rename_i hi
        have hr : blanksN s k + 1 ≤ s.size := isAt_room hi
        injection h with h; injection h with h h2; rw [← h, ← h2]; exact ⟨by omega, hr, hrs⟩
      · split at h
        · cases h
        · cases e : rawO s (blanksN s k) l with
          | none => rw [e] at h; cases h
          | some q =>
            obtain ⟨x, nx⟩ := q
            have hn := rawO_next (by omega) e
            rw [e] at h
            have := opGo_good s l n f nx (rs ++ [x]) m p hn.2 (fun d hd => (List.mem_append.1 hd).elim (hrs d) (fun hd => by rw [List.mem_singleton.1 hd]; exact rawO_text e)) h
            exact ⟨by omega, this.2⟩
theorem mk_good {s : ByteArray} {a p : Nat} {l : List Dcl} {m : Mk} (ha : a < s.size) (h : mkO s a l = some (m, p)) : MkGood s a m p := by
  have hnil : ∀ d ∈ ([] : List Dcl), textOk d.uri = true := fun d hd => by cases hd
  have hpl : ∀ k t b, a < b → b ≤ s.size → plainO k s t b = some (m, p) → MkGood s a m p := by
    intro k t b hb hb2 h
    unfold plainO at h
    cases e : toO s t b with
    | none => rw [e] at h; cases h
    | some q =>
      obtain ⟨x, y⟩ := q
      have := toO_next hb2 e
      rw [e] at h
      simp only [Option.map_some] at h
      injection h with h; injection h with h h2
      rw [← h, ← h2]; exact ⟨by show a < y; omega, by show y ≤ _; omega, hnil⟩
  unfold mkO at h
  split at h
  · rename_i hi; exact hpl _ _ (a + 4) (by omega) (isAt_room hi) h
  split at h
  · rename_i hi
    have hr : a + 2 ≤ s.size := isAt_room hi
    unfold toldO at h
    cases e : nameO s (a + 2) with
    | none => rw [e] at h; cases h
    | some q =>
      obtain ⟨x, y⟩ := q
      have hn := nameO_next hr e
      rw [e] at h
      simp only [Option.bind_some] at h
      split at h
      · rename_i hi2
        have hr2 : y + 2 ≤ s.size := isAt_room hi2
        injection h with h; injection h with h h2; rw [← h, ← h2]; exact ⟨by show a < y + 2; omega, hr2, hnil⟩
      split at h
      · cases h
      · have hb := (blanksN_le s y)
        cases e2 : toO s ⟨#[63, 62]⟩ (blanksN s y) with
        | none => rw [e2] at h; cases h
        | some q =>
          obtain ⟨x2, y2⟩ := q
          have := toO_next (hb.2 hn.2.1) e2
          rw [e2] at h
          simp only [Option.map_some] at h
          injection h with h; injection h with h h2; rw [← h, ← h2]; exact ⟨by show a < y2; omega, by show y2 ≤ _; omega, hnil⟩
  split at h
  · rename_i hi
    have hr : a + 2 ≤ s.size := isAt_room hi
    unfold closeO at h
    cases e : nameO s (a + 2) with
    | none => rw [e] at h; cases h
    | some q =>
      obtain ⟨x, y⟩ := q
      have hn := nameO_next hr e
      have hb := (blanksN_le s y)
      rw [e] at h
      simp only [Option.bind_some] at h
      split at h
      · rename_i hi2
        have hr2 : blanksN s y + 1 ≤ s.size := isAt_room hi2
        injection h with h; injection h with h h2; rw [← h, ← h2]; exact ⟨by show a < blanksN s y + 1; omega, hr2, hnil⟩
      · cases h
  split at h
  · rename_i hi; exact hpl _ _ (a + 9) (by omega) (isAt_room hi) h
  split at h
  · rename_i hi
    have hr : a + 1 ≤ s.size := isAt_room hi
    unfold openO at h
    cases e : nameO s (a + 1) with
    | none => rw [e] at h; cases h
    | some q =>
      obtain ⟨x, y⟩ := q
      have hn := nameO_next hr e
      rw [e] at h
      have := opGo_good s l x _ y [] m p hn.2.1 hnil h
      exact ⟨by omega, this.2⟩
  · rename_i hi
    have hne : ¬ bt s a = 60 := fun e => hi (isAt_of ha e)
    have hlt := ltN_le s (a + 1) (by omega)
    rw [← ltN_go ha hne] at hlt
    unfold textO at h
    split at h
    · cases h
    · cases e : expandV (s.extract a (ltN s a)) l with
      | none => rw [e] at h; cases h
      | some x =>
        rw [e] at h
        simp only [Option.map_some] at h
        injection h with h; injection h with h h2; rw [← h, ← h2]; exact ⟨by show a < ltN s a; omega, hlt.2, hnil⟩
theorem mark_good {s : ByteArray} {a : Int} {l : List Dcl} {q : Mk × Nat} (h : markO s a l = some q) : a < q.2 ∧ q.2 ≤ s.size ∧ textOk q.1.text = true ∧ ∀ d ∈ q.1.raws, textOk d.uri = true := by
  unfold markO at h
  split at h
  · rename_i hc
    cases e : mkO s a.toNat l with
    | none => rw [e] at h; cases h
    | some q' =>
      obtain ⟨m, p⟩ := q'
      have := mk_good (by omega) e
      rw [e] at h
      simp only [Option.bind_some] at h
      split at h
      · rename_i ht
        injection h with h
        rw [← h]
        exact ⟨by show a < p; have := this.1; omega, this.2.1, ht, this.2.2⟩
      · cases h
  · cases h
end Go.Proofs.YtmfkdgdamepbcaaGreatDoor
