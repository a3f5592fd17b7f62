/- SplitName, JoinName, of both. -/
import Derived.Test.YtpcklgkpjmmakaaGreatDoorEscPl
import Derived.Test.YtpcklgkpjmmakaaGreatDoorTextOk
namespace Go.Proofs.YtpcklgkpjmmakaaGreatDoor
open Go.RowKit Go.Lib
set_option linter.unusedVariables false
set_option linter.unusedSimpArgs false
set_option maxHeartbeats 1000000
theorem index_miss (c : UInt8) : ∀ l : List UInt8, (∀ y ∈ l, y ≠ c) → index l [c] = -1
  | [], _ => rfl
  | b :: l, h => by rw [index_ne l (h b (by simp)), index_miss c l (fun y hy => h y (by simp [hy]))]; rfl
theorem index_first (c : UInt8) : ∀ (l : List UInt8) (j : Nat), (∀ y ∈ l.take j, y ≠ c) → l[j]? = some c → index l [c] = j
  | [], j, _, h => by simp at h
  | b :: l, 0, _, h => by simp at h; subst h; exact index_eq b l
  | b :: l, j + 1, h, e => by
    have := index_first c l j (fun y hy => h y (by simp [hy])) (by simpa using e)
    rw [index_ne l (h b (by simp)), if_neg (by rw [this]; simp), this]
    omega
def colon (s : ByteArray) : Int := index s.data.toList [58]
def splitName (s : ByteArray) : Option (ByteArray × ByteArray) :=
  if plainOk s then some (⟨#[]⟩, s)
  else if 0 ≤ colon s then (if plainOk (s.extract 0 (colon s).toNat) && plainOk (s.extract ((colon s).toNat + 1) s.size) then some (s.extract 0 (colon s).toNat, s.extract ((colon s).toNat + 1) s.size) else none)
  else none
def snV (o : Option (ByteArray × ByteArray)) : Value := match o with | none => .tuple #[.string ⟨#[]⟩, .string ⟨#[]⟩, .bool false] | some (a, b) => .tuple #[.string a, .string b, .bool true]
theorem ext_head (s : ByteArray) (i : Nat) : (⟨(s.data.toList.take i).toArray⟩ : ByteArray) = s.extract 0 i := str_ext (by rw [Lib.extract_data]; simp)
theorem ext_tail (s : ByteArray) (i : Nat) : (⟨(s.data.toList.drop i).toArray⟩ : ByteArray) = s.extract i s.size := str_ext (by
  rw [Lib.extract_data, List.take_of_length_le (by rw [List.length_drop, str_size]; omega)])
theorem split_no {s : ByteArray} (h : plainOk s = false) (hc : ¬ 0 ≤ colon s) : splitName s = none := by rw [splitName, if_neg (by rw [h]; simp), if_neg hc]
theorem split_at {s : ByteArray} {i : Nat} (h : plainOk s = false) (hc : colon s = i) : splitName s = if plainOk (s.extract 0 i) && plainOk (s.extract (i + 1) s.size) then some (s.extract 0 i, s.extract (i + 1) s.size) else none := by
  rw [splitName, if_neg (by rw [h]; simp), if_pos (by omega), hc, Int.toNat_natCast]
theorem colon_room {s : ByteArray} {i : Nat} (h : colon s = i) : i < s.size := by
  have := index_room s.data.toList [58] (by show 0 ≤ colon s; omega)
  rw [str_size] at this
  have h2 : index s.data.toList [58] = i := h
  simp at this
  omega
theorem specSplitName_calls (s : ByteArray) (w : World) (hs : s.size ≤ 1000000000) :
    Calls Tryz.prog 174 #[.string s] w fun e w' => e = .returned (snV (splitName s)) ∧ Below w.heap.size w w' := by
  go_enter Tryz.func174, Tryz.ntmps174
  go_wp2_with fail
  refine (specPlainOk_calls s w (by omega)).mono ?_
  rintro e w1 ⟨rfl, hb1⟩
  cases hp : plainOk s with
  | true =>
    have hfin := Aside0.mk (show splitName s = some (⟨#[]⟩, s) by rw [splitName, if_pos hp])
    clear hp
    go_wp2
    go_ret3
    exact ⟨by rw [hfin.out]; rfl, hb1⟩
  | false =>
    have HP := Aside0.mk hp
    clear hp
    go_wp2
    go_loopg [5] s.size (fun k a wr => ∃ j : Nat, a = .int .i64 j ∧ j + k = s.size ∧ Aside (∀ y ∈ s.data.toList.take j, y ≠ 58) ∧ Below w.heap.size w wr)
    case atStart => exact ⟨0, rfl, by omega, (by simp : ∀ y ∈ s.data.toList.take 0, y ≠ 58), hb1⟩
    case round =>
      obtain ⟨j, rfl, hk, ha, hb⟩ := hrel
      by_cases hj : j < s.size
      · have hu : s[j].toNat < 256 := UInt8.toNat_lt _
        have hi1 : (j : Int) < (s.size : Int) := by omega
        by_cases hc : s[j].toNat = 58
        · have hcol := Aside0.mk (show colon s = j from index_first 58 _ j ha.out (by rw [str_get s j hj, show s[j] = 58 from UInt8.toNat_inj.1 hc]))
          have hsp := Aside0.mk (split_at HP.out hcol.out)
          have z1 : (s.extract 0 j).size ≤ 1000000000 := by rw [ByteArray.size_extract]; omega
          have z2 : (s.extract (j + 1) s.size).size ≤ 1000000000 := by rw [ByteArray.size_extract]; omega
          clear ha
          go_wp2_with fail
          refine (specPlainOk_calls (s.extract 0 j) wr (by omega)).mono ?_
          rintro e w2 ⟨rfl, hb2⟩
          cases h1 : plainOk (s.extract 0 j) with
          | false =>
            have hfin := Aside0.mk (show splitName s = none by rw [hsp.out, h1]; rfl)
            clear h1
            go_wp2
            go_ret3
            exact ⟨by rw [hfin.out]; rfl, below_then hb hb2⟩
          | true =>
            have H1 := Aside0.mk h1
            clear h1
            go_wp2_with fail
            refine (specPlainOk_calls (s.extract (j + 1) s.size) w2 (by omega)).mono ?_
            rintro e w3 ⟨rfl, hb3⟩
            cases h2 : plainOk (s.extract (j + 1) s.size) with
            | false =>
              have hfin := Aside0.mk (show splitName s = none by rw [hsp.out, H1.out, h2]; rfl)
              clear h2
              go_wp2
              go_ret3
              exact ⟨by rw [hfin.out]; rfl, below_then (below_then hb hb2) hb3⟩
            | true =>
              have hfin := Aside0.mk (show splitName s = some (s.extract 0 j, s.extract (j + 1) s.size) by rw [hsp.out, H1.out, h2]; rfl)
              have i5 : IntKind.i64.wrap ((j : Int) + 1) = (j : Int) + 1 := by rw [IntKind.wrap_i64]; omega
              have i6 : (0 : Int) ≤ (j : Int) + 1 := by omega
              have i7 : (j : Int) + 1 ≤ (s.size : Int) := by omega
              have i8 : ((j : Int) + 1).toNat = j + 1 := by omega
              have i9 : (j : Int) ≤ (s.size : Int) := by omega
              clear h2
              go_wp2
              go_quiet (fail)
              go_wp2
              go_ret3
              exact ⟨by rw [hfin.out]; rfl, below_drewN (below_then (below_then hb hb2) hb3) _⟩
        · have hnx := Aside0.mk (show ∀ y ∈ s.data.toList.take (j + 1), y ≠ 58 by
            intro y hy
            rw [str_take s j hj, List.mem_append, List.mem_singleton] at hy
            rcases hy with hy | rfl
            · exact ha.out y hy
            · exact fun e => hc (by rw [e]; rfl))
          clear ha
          go_wp2
          go_roundg (gk - 1)
          case measure => omega
          case rel => exact ⟨j + 1, by go_num, by omega, hnx.out, hb⟩
      · have hfin := Aside0.mk (show splitName s = none from split_no HP.out (by
          have := ha.out
          rw [List.take_of_length_le (by rw [str_size]; omega)] at this
          rw [colon, index_miss 58 _ this]; omega))
        clear ha
        go_wp2
        go_ret3
        exact ⟨by rw [hfin.out]; rfl, hb⟩
theorem cut_colon (s : ByteArray) : Lib.cut s.data.toList [58] = if 0 ≤ colon s then (s.data.toList.take (colon s).toNat, s.data.toList.drop ((colon s).toNat + 1), true) else (s.data.toList, [], false) := rfl
theorem implSplitName_calls (s : ByteArray) (w : World) (hs : s.size ≤ 1000000000) (hE : Env w) :
    Calls Tryz.prog 163 #[.string s] w fun e w' => e = .returned (snV (splitName s)) ∧ Below w.heap.size w w' := by
  have HE := Aside0.mk hE
  clear hE
  go_enter Tryz.func163, Tryz.ntmps163
  go_wp2_with fail
  refine (implPlainOk_calls s w (by omega) HE.out).mono ?_
  rintro e w1 ⟨rfl, hb1⟩
  cases hp : plainOk s with
  | true =>
    have hfin := Aside0.mk (show splitName s = some (⟨#[]⟩, s) by rw [splitName, if_pos hp])
    clear hp
    go_wp2
    go_ret3
    exact ⟨by rw [hfin.out]; rfl, hb1⟩
  | false =>
    have HP := Aside0.mk hp
    clear hp
    obtain ⟨m, hm⟩ := (HE.out.below hb1).len
    have hm := Aside0.mk hm
    go_wp2_with fail
    refine (Tryz.strings_Cut s ⟨#[58]⟩ m w1 (by omega) hm.out).mono ?_
    rintro e w2 ⟨rfl, nd, rfl⟩
    have HE1 := Aside0.mk ((HE.out.below hb1).drawn (Drawn.of w1 nd))
    have HB1 := below_drewN hb1 nd
    generalize w1.drewN nd = w2 at HE1 HB1 ⊢
    rw [show (⟨#[58]⟩ : ByteArray).data.toList = [58] from rfl, cut_colon s]
    by_cases hc : 0 ≤ colon s
    · obtain ⟨i, hi⟩ : ∃ i : Nat, colon s = i := ⟨(colon s).toNat, by omega⟩
      have hsp := Aside0.mk (split_at HP.out hi)
      have hr := colon_room hi
      rw [if_pos hc, hi, Int.toNat_natCast, ext_head s i, ext_tail s (i + 1)]
      have z1 : (s.extract 0 i).size ≤ 1000000000 := by rw [ByteArray.size_extract]; omega
      have z2 : (s.extract (i + 1) s.size).size ≤ 1000000000 := by rw [ByteArray.size_extract]; omega
      clear hc hi
      generalize s.extract 0 i = a at *
      generalize s.extract (i + 1) s.size = b at *
      go_wp2_with fail
      refine (implPlainOk_calls a w2 (by omega) HE1.out).mono ?_
      rintro e w3 ⟨rfl, hb3⟩
      cases h1 : plainOk a with
      | false =>
        have hfin := Aside0.mk (show splitName s = none by rw [hsp.out, h1]; rfl)
        clear h1
        go_wp2
        go_ret3
        exact ⟨by rw [hfin.out]; rfl, below_then HB1 hb3⟩
      | true =>
        have H1 := Aside0.mk h1
        clear h1
        go_wp2_with fail
        refine (implPlainOk_calls b w3 (by omega) (HE1.out.below hb3)).mono ?_
        rintro e w4 ⟨rfl, hb4⟩
        cases h2 : plainOk b with
        | false =>
          have hfin := Aside0.mk (show splitName s = none by rw [hsp.out, H1.out, h2]; rfl)
          clear h2
          go_wp2
          go_ret3
          exact ⟨by rw [hfin.out]; rfl, below_then (below_then HB1 hb3) hb4⟩
        | true =>
          have hfin := Aside0.mk (show splitName s = some (a, b) by rw [hsp.out, H1.out, h2]; rfl)
          clear h2
          go_wp2
          go_ret3
          exact ⟨by rw [hfin.out]; rfl, below_then (below_then HB1 hb3) hb4⟩
    · have hfin := Aside0.mk (split_no HP.out hc)
      rw [if_neg hc]
      clear hc
      go_wp2
      go_ret3
      exact ⟨by rw [hfin.out]; rfl, HB1⟩
def joined (pre loc : ByteArray) : ByteArray := if pre = ⟨#[]⟩ then loc else pre ++ ⟨#[58]⟩ ++ loc
def joinName (pre loc : ByteArray) : ByteArray := match splitName (joined pre loc) with | none => ⟨#[]⟩ | some (a, b) => if a = pre ∧ b = loc then joined pre loc else ⟨#[]⟩
theorem str_ne {a b : ByteArray} (h : ¬ a = b) : ¬ a.toList = b.toList := fun e => h (str_ext (by rw [← ByteArray.toList_eq, ← ByteArray.toList_eq]; exact e))
theorem empty_toList : (⟨#[]⟩ : ByteArray).toList = [] := by rw [ByteArray.toList_eq]
theorem str_neb {a b : ByteArray} (h : ¬ a = b) : (a.toList == b.toList) = false := by
  rw [beq_eq_false_iff_ne]
  exact str_ne h
theorem str_ne0 {a : ByteArray} (h : ¬ a = ⟨#[]⟩) : ¬ a.toList = [] := fun e => str_ne h (e.trans empty_toList.symm)
theorem str_neE {a : ByteArray} (h : ¬ a = ⟨#[]⟩) : a.toList.isEmpty = false := by
  cases e : a.toList with
  | nil => exact absurd e (str_ne0 h)
  | cons _ _ => rfl
theorem specJoinName_calls (pre loc : ByteArray) (w : World) (h1 : pre.size ≤ 100000000) (h2 : loc.size ≤ 100000000) :
    Calls Tryz.prog 148 #[.string pre, .string loc] w fun e w' => e = .returned (.string (joinName pre loc)) ∧ Below w.heap.size w w' := by
  go_enter Tryz.func148, Tryz.ntmps148
  by_cases hp : pre = ⟨#[]⟩
  · subst hp
    have HS := Aside0.mk (show joined (⟨#[]⟩ : ByteArray) loc = loc by rw [joined, if_pos rfl])
    go_wp2_with fail
    refine (specSplitName_calls _ w (by omega)).mono ?_
    rintro e w1 ⟨rfl, hb1⟩
    cases hq : splitName loc with
    | none =>
      have hfin := Aside0.mk (show joinName (⟨#[]⟩ : ByteArray) loc = ⟨#[]⟩ by rw [joinName, HS.out, hq])
      clear hq
      simp only [snV]
      go_wp2
      go_ret
      exact ⟨by rw [hfin.out]; rfl, hb1⟩
    | some q =>
      obtain ⟨a, b⟩ := q
      have hval := Aside0.mk (show joinName (⟨#[]⟩ : ByteArray) loc = if a = (⟨#[]⟩ : ByteArray) ∧ b = loc then loc else ⟨#[]⟩ by rw [joinName, HS.out, hq])
      clear hq
      simp only [snV]
      by_cases ha : a = (⟨#[]⟩ : ByteArray)
      · by_cases hb : b = loc
        · have hfin := Aside0.mk (show joinName (⟨#[]⟩ : ByteArray) loc = loc by rw [hval.out, if_pos ⟨ha, hb⟩])
          clear hval
          subst ha hb
          go_wp2
          go_ret
          exact ⟨by rw [hfin.out]; rfl, hb1⟩
        · have hfin := Aside0.mk (show joinName (⟨#[]⟩ : ByteArray) loc = ⟨#[]⟩ by rw [hval.out, if_neg (fun h => hb h.2)])
          have hb' := str_neb hb
          clear hb hval
          subst ha
          go_wp2
          go_ret
          exact ⟨by rw [hfin.out]; rfl, hb1⟩
      · have hfin := Aside0.mk (show joinName (⟨#[]⟩ : ByteArray) loc = ⟨#[]⟩ by rw [hval.out, if_neg (fun h => ha h.1)])
        have ha' := str_ne0 ha
        have ha2 := str_neE ha
        clear ha hval
        go_wp2
        go_ret
        exact ⟨by rw [hfin.out]; rfl, hb1⟩
  · have HS := Aside0.mk (show joined pre loc = pre ++ ⟨#[58]⟩ ++ loc by rw [joined, if_neg hp])
    have hp' := str_ne0 hp
    have hp2 := str_neE hp
    have z1 : ¬ (9223372036854775807 < pre.size + (⟨#[58]⟩ : ByteArray).size) := by rw [show (⟨#[58]⟩ : ByteArray).size = 1 from rfl]; omega
    have z2 : (pre ++ ⟨#[58]⟩).size = pre.size + 1 := by rw [ByteArray.size_append]; rfl
    have z3 : ¬ (9223372036854775807 < (pre ++ ⟨#[58]⟩).size + loc.size) := by rw [z2]; omega
    have z4 : (pre ++ ⟨#[58]⟩ ++ loc).size ≤ 1000000000 := by rw [ByteArray.size_append, z2]; omega
    clear hp
    go_wp2_with fail
    generalize pre ++ ⟨#[58]⟩ ++ loc = S at *
    refine (specSplitName_calls _ w (by omega)).mono ?_
    rintro e w1 ⟨rfl, hb1⟩
    cases hq : splitName S with
    | none =>
      have hfin := Aside0.mk (show joinName pre loc = ⟨#[]⟩ by rw [joinName, HS.out, hq])
      clear hq
      simp only [snV]
      go_wp2
      go_ret
      exact ⟨by rw [hfin.out]; rfl, hb1⟩
    | some q =>
      obtain ⟨a, b⟩ := q
      have hval := Aside0.mk (show joinName pre loc = if a = pre ∧ b = loc then S else ⟨#[]⟩ by rw [joinName, HS.out, hq])
      clear hq
      simp only [snV]
      by_cases ha : a = pre
      · by_cases hb : b = loc
        · have hfin := Aside0.mk (show joinName pre loc = S by rw [hval.out, if_pos ⟨ha, hb⟩])
          clear hval
          subst ha hb
          go_wp2
          go_ret
          exact ⟨by rw [hfin.out]; rfl, hb1⟩
        · have hfin := Aside0.mk (show joinName pre loc = ⟨#[]⟩ by rw [hval.out, if_neg (fun h => hb h.2)])
          have hb' := str_neb hb
          clear hb hval
          subst ha
          go_wp2
          go_ret
          exact ⟨by rw [hfin.out]; rfl, hb1⟩
      · have hfin := Aside0.mk (show joinName pre loc = ⟨#[]⟩ by rw [hval.out, if_neg (fun h => ha h.1)])
        have ha' := str_neb ha
        clear ha hval
        go_wp2
        go_ret
        exact ⟨by rw [hfin.out]; rfl, hb1⟩
theorem implJoinName_calls (pre loc : ByteArray) (w : World) (h1 : pre.size ≤ 100000000) (h2 : loc.size ≤ 100000000) (hE : Env w) :
    Calls Tryz.prog 143 #[.string pre, .string loc] w fun e w' => e = .returned (.string (joinName pre loc)) ∧ Below w.heap.size w w' := by
  have HE := Aside0.mk hE
  clear hE
  go_enter Tryz.func143, Tryz.ntmps143
  by_cases hp : pre = ⟨#[]⟩
  · subst hp
    have HS := Aside0.mk (show joined (⟨#[]⟩ : ByteArray) loc = loc by rw [joined, if_pos rfl])
    go_wp2_with fail
    refine (implSplitName_calls _ w (by omega) HE.out).mono ?_
    rintro e w1 ⟨rfl, hb1⟩
    cases hq : splitName loc with
    | none =>
      have hfin := Aside0.mk (show joinName (⟨#[]⟩ : ByteArray) loc = ⟨#[]⟩ by rw [joinName, HS.out, hq])
      clear hq
      simp only [snV]
      go_wp2
      go_ret
      exact ⟨by rw [hfin.out]; rfl, hb1⟩
    | some q =>
      obtain ⟨a, b⟩ := q
      have hval := Aside0.mk (show joinName (⟨#[]⟩ : ByteArray) loc = if a = (⟨#[]⟩ : ByteArray) ∧ b = loc then loc else ⟨#[]⟩ by rw [joinName, HS.out, hq])
      clear hq
      simp only [snV]
      by_cases ha : a = (⟨#[]⟩ : ByteArray)
      · by_cases hb : b = loc
        · have hfin := Aside0.mk (show joinName (⟨#[]⟩ : ByteArray) loc = loc by rw [hval.out, if_pos ⟨ha, hb⟩])
          clear hval
          subst ha hb
          go_wp2
          go_ret
          exact ⟨by rw [hfin.out]; rfl, hb1⟩
        · have hfin := Aside0.mk (show joinName (⟨#[]⟩ : ByteArray) loc = ⟨#[]⟩ by rw [hval.out, if_neg (fun h => hb h.2)])
          have hb' := str_neb hb
          clear hb hval
          subst ha
          go_wp2
          go_ret
          exact ⟨by rw [hfin.out]; rfl, hb1⟩
      · have hfin := Aside0.mk (show joinName (⟨#[]⟩ : ByteArray) loc = ⟨#[]⟩ by rw [hval.out, if_neg (fun h => ha h.1)])
        have ha' := str_ne0 ha
        have ha2 := str_neE ha
        clear ha hval
        go_wp2
        go_ret
        exact ⟨by rw [hfin.out]; rfl, hb1⟩
  · have HS := Aside0.mk (show joined pre loc = pre ++ ⟨#[58]⟩ ++ loc by rw [joined, if_neg hp])
    have hp' := str_ne0 hp
    have hp2 := str_neE hp
    have z1 : ¬ (9223372036854775807 < pre.size + (⟨#[58]⟩ : ByteArray).size) := by rw [show (⟨#[58]⟩ : ByteArray).size = 1 from rfl]; omega
    have z2 : (pre ++ ⟨#[58]⟩).size = pre.size + 1 := by rw [ByteArray.size_append]; rfl
    have z3 : ¬ (9223372036854775807 < (pre ++ ⟨#[58]⟩).size + loc.size) := by rw [z2]; omega
    have z4 : (pre ++ ⟨#[58]⟩ ++ loc).size ≤ 1000000000 := by rw [ByteArray.size_append, z2]; omega
    clear hp
    go_wp2_with fail
    generalize pre ++ ⟨#[58]⟩ ++ loc = S at *
    refine (implSplitName_calls _ w (by omega) HE.out).mono ?_
    rintro e w1 ⟨rfl, hb1⟩
    cases hq : splitName S with
    | none =>
      have hfin := Aside0.mk (show joinName pre loc = ⟨#[]⟩ by rw [joinName, HS.out, hq])
      clear hq
      simp only [snV]
      go_wp2
      go_ret
      exact ⟨by rw [hfin.out]; rfl, hb1⟩
    | some q =>
      obtain ⟨a, b⟩ := q
      have hval := Aside0.mk (show joinName pre loc = if a = pre ∧ b = loc then S else ⟨#[]⟩ by rw [joinName, HS.out, hq])
      clear hq
      simp only [snV]
      by_cases ha : a = pre
      · by_cases hb : b = loc
        · have hfin := Aside0.mk (show joinName pre loc = S by rw [hval.out, if_pos ⟨ha, hb⟩])
          clear hval
          subst ha hb
          go_wp2
          go_ret
          exact ⟨by rw [hfin.out]; rfl, hb1⟩
        · have hfin := Aside0.mk (show joinName pre loc = ⟨#[]⟩ by rw [hval.out, if_neg (fun h => hb h.2)])
          have hb' := str_neb hb
          clear hb hval
          subst ha
          go_wp2
          go_ret
          exact ⟨by rw [hfin.out]; rfl, hb1⟩
      · have hfin := Aside0.mk (show joinName pre loc = ⟨#[]⟩ by rw [hval.out, if_neg (fun h => ha h.1)])
        have ha' := str_neb ha
        clear ha hval
        go_wp2
        go_ret
        exact ⟨by rw [hfin.out]; rfl, hb1⟩
end Go.Proofs.YtpcklgkpjmmakaaGreatDoor
