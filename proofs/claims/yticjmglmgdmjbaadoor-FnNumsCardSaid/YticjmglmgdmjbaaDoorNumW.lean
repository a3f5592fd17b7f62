/- The walks of NumText and ParseNum, program and reference. -/
import Derived.Test.YticjmglmgdmjbaaDoorKit
import Derived.Test.YticjmglmgdmjbaaDoorNum
import Derived.Test.YticjmglmgdmjbaaDoorShelf
import Derived.Test.YticjmglmgdmjbaaDoorProg
import Derived.WalkKit
import Derived.WalkLawsBesides
import Derived.WalkSpells
import Derived.Deep.LoopGhost
import Derived.Deep.QuietTactic
import Derived.BigQuiet
import Derived.Outline
import Derived.Laws.BytesArg
import Derived.Shelf.Abstract
import Derived.Deep.RegionHeld3
namespace Go.Proofs.YticjmglmgdmjbaaDoor
open Go.RowKit
set_option linter.unusedVariables false
set_option linter.unusedSimpArgs false

theorem str_size (s : ByteArray) : s.data.toList.length = s.size := by rw [Array.length_toList]; rfl
theorem str_ext {s t : ByteArray} (h : s.data.toList = t.data.toList) : s = t := by
  obtain ⟨a⟩ := s
  obtain ⟨b⟩ := t
  congr
  exact Array.toList_inj.1 h
theorem str_append (s t : ByteArray) : (s ++ t).data.toList = s.data.toList ++ t.data.toList := by simp
theorem num_round {u : Nat} (t : ByteArray) (n : Nat) (hu : u ≠ 0) (h : digs u ++ t.data.toList = digs n) : digs (u / 10) ++ (strOfNums [48 + ((u % 10 : Nat) : Int)] ++ t).data.toList = digs n := by
  rw [← h, digs_step hu, str_append, strOfNums_data, List.append_assoc]
  congr 1

theorem conv_byte (W : World) (u : Int) : (convert 27 9 (.slice (some ⟨W.heap.size, 0, none⟩) 1 1)).run Tryd.prog (W.alloc (.cells #[.int .u8 u] 5)) = .ok (.string (strOfNums [u])) (W.alloc (.cells #[.int .u8 u] 5)) := by
  refine run_convert_bytes_arg (P := Tryd.prog) _ 27 5 Tryd.underlying27 Tryd.underlying5 W.heap.size 0 1 1 [u] rfl ?_ 9 Tryd.underlying9
  intro i hi
  obtain rfl : i = 0 := by omega
  simp
theorem specNumText_calls (n : Int) (w : World) (h0 : -9223372036854775808 ≤ n) (h1 : n ≤ 9223372036854775807) :
    Calls Tryd.prog 6 #[.int .i64 n] w fun e w' => e = .returned (.string ⟨(Lib.itoa n).toArray⟩) ∧ Below w.heap.size w w' := by
  by_cases hz : n = 0
  · subst hz
    go_enter Tryd.func6, Tryd.ntmps6
    go_wp2
    go_ret
    exact ⟨by rw [show Lib.itoa 0 = [48] by decide +kernel]; rfl, Below.refl _ _⟩
  · have hz' : ((n : Int) == 0) = false := by simpa using hz
    go_enter Tryd.func6, Tryd.ntmps6
    go_wp2
    go_loopg [3, 4, 5] n.natAbs (fun k s x _ wr => ∃ (x' : Int) (t : ByteArray), x = .int .i64 x' ∧ s = .string t ∧ x'.natAbs ≤ k ∧ -9223372036854775808 ≤ x' ∧ x' ≤ 9223372036854775807 ∧ Aside (digs x'.natAbs ++ t.data.toList = digs n.natAbs) ∧ Below w.heap.size w wr)
    case atStart => exact ⟨n, _, rfl, rfl, Nat.le_refl _, h0, h1, List.append_nil _, Below.refl _ _⟩
    case round =>
      obtain ⟨x, t, rfl, rfl, hk, hx0, hx1, ha, hb⟩ := hrel
      have hts : t.size ≤ 20 := by
        have e1 := congrArg List.length ha.out
        rw [List.length_append, str_size] at e1
        have := digs_length (u := n.natAbs) (by omega)
        omega
      by_cases hx : x = 0
      · subst hx
        have hfin := Aside0.mk (show t.data.toList = Lib.decDigits n.natAbs by
          have e1 := ha.out
          rwa [Int.natAbs_zero, digs_zero, List.nil_append, digs_pos (by omega)] at e1)
        clear ha
        have hss : ¬ (9223372036854775807 < (⟨#[45]⟩ : ByteArray).size + t.size) := by
          show ¬ (9223372036854775807 < 1 + t.size)
          omega
        by_cases hn : n < 0
        · have hfin2 := Aside0.mk (show (⟨#[45]⟩ : ByteArray) ++ t = ⟨(Lib.itoa n).toArray⟩ by
            apply str_ext; rw [str_append, hfin.out]; simp only [Lib.itoa, if_pos hn]; rfl)
          go_wp2
          go_ret
          exact ⟨by rw [← hfin2.out]; rfl, hb⟩
        · have hfin2 := Aside0.mk (show t = ⟨(Lib.itoa n).toArray⟩ by
            apply str_ext; rw [hfin.out]; simp only [Lib.itoa, if_neg hn]; rw [show n.toNat = n.natAbs from by omega])
          go_wp2
          go_ret
          exact ⟨by rw [← hfin2.out]; rfl, hb⟩
      · have hx' : (x != 0) = true := by simpa using hx
        have hcv := conv_byte wr
        have ha2 := Aside0.mk (num_round t n.natAbs (by omega) ha.out)
        clear ha
        have hss : ∀ u : Int, ¬ (9223372036854775807 < (strOfNums [u]).size + t.size) := fun u => by rw [strOfNums_size]; simp; omega
        by_cases hn : x < 0
        · obtain ⟨u, rfl⟩ : ∃ u : Nat, x = -(u : Int) := ⟨x.natAbs, by omega⟩
          rw [Int.natAbs_neg, Int.natAbs_natCast] at ha2 hk
          have e1 : (-(u : Int)).tmod 10 = -((u % 10 : Nat) : Int) := by rw [Int.neg_tmod, show (10:Int) = ((10:Nat):Int) from rfl, ← Int.ofNat_tmod]
          have e2 : (-(u : Int)).tdiv 10 = -((u / 10 : Nat) : Int) := by rw [Int.neg_tdiv, show (10:Int) = ((10:Nat):Int) from rfl, ← Int.ofNat_tdiv]
          have hb0 : u % 10 < 10 := by omega
          have hb1 : u / 10 < u := by omega
          generalize u % 10 = m at *
          generalize u / 10 = q at *
          by_cases hm : m = 0
          · subst hm
            go_wp2
            go_roundg q
            case measure => omega
            case rel => exact ⟨-(q : Int), _, rfl, rfl, by omega, by omega, by omega, by rw [Int.natAbs_neg, Int.natAbs_natCast]; exact ha2.out, below_alloc hb _⟩
          · go_wp2
            go_roundg q
            case measure => omega
            case rel => exact ⟨-(q : Int), _, rfl, rfl, by omega, by omega, by omega, by rw [Int.natAbs_neg, Int.natAbs_natCast]; exact ha2.out, below_alloc hb _⟩
        · obtain ⟨u, rfl⟩ : ∃ u : Nat, x = (u : Int) := ⟨x.natAbs, by omega⟩
          rw [Int.natAbs_natCast] at ha2 hk
          have e1 : ((u : Int)).tmod 10 = ((u % 10 : Nat) : Int) := by rw [show (10:Int) = ((10:Nat):Int) from rfl, ← Int.ofNat_tmod]
          have e2 : ((u : Int)).tdiv 10 = ((u / 10 : Nat) : Int) := by rw [show (10:Int) = ((10:Nat):Int) from rfl, ← Int.ofNat_tdiv]
          have hb0 : u % 10 < 10 := by omega
          have hb1 : u / 10 < u := by omega
          generalize u % 10 = m at *
          generalize u / 10 = q at *
          go_wp2
          go_roundg q
          case measure => omega
          case rel => exact ⟨(q : Int), _, rfl, rfl, by omega, by omega, by omega, by rw [Int.natAbs_natCast]; exact ha2.out, below_alloc hb _⟩

/-- What the world holds of the library's tables and errors. -/
structure Env (w : World) : Prop where
  tab : Lib.TabIs Tryd.prog w "internal/strconv.uint64pow10" .u64 Lib.pow10Tab
  syn : ∃ tp p, w.var? Tryd.prog "strconv.ErrSyntax" = some #[.iface tp p]
  ran : ∃ tp p, w.var? Tryd.prog "strconv.ErrRange" = some #[.iface tp p]
theorem var_stays {P : Program} {w w1 : World} {n : String} {cs : Array Value} (hb : Below w.heap.size w w1) (h : w.var? P n = some cs) : w1.var? P n = some cs := by
  unfold World.var? at h ⊢
  obtain ⟨g, hg, h2⟩ := Option.bind_eq_some_iff.1 h
  rw [hg, Option.bind_some]
  have hlt : g < w.heap.size := by
    rcases Nat.lt_or_ge g w.heap.size with hl | hl
    · exact hl
    · rw [Array.getElem?_eq_none hl] at h2; cases h2
  rw [hb.block g hlt]
  exact h2
theorem Env.below {w w1 : World} (h : Env w) (hb : Below w.heap.size w w1) : Env w1 :=
  ⟨var_stays hb h.tab, by obtain ⟨a, b, c⟩ := h.syn; exact ⟨a, b, var_stays hb c⟩, by obtain ⟨a, b, c⟩ := h.ran; exact ⟨a, b, var_stays hb c⟩⟩
theorem below_grow (w : World) (k : Nat) (os : Array Obj) : Below w.heap.size w (Sort.grow (w.drewN k) os) :=
  ⟨rfl, rfl, rfl, by rw [Sort.size_grow]; exact Nat.le_add_right _ _, fun j hj => Sort.heap_grow_old (w.drewN k) os hj⟩

theorem below_bytes (w : World) (e : TypeId) (s : ByteArray) : Below w.heap.size w (Lib.bytesWorld w e s) :=
  ⟨rfl, rfl, rfl, by rw [Lib.bytesWorld_size]; omega, fun i hi => Lib.bytesWorld_at_old w e s i hi⟩
theorem implNumText_calls (n : Int) (w : World) (h0 : -9223372036854775808 ≤ n) (h1 : n ≤ 9223372036854775807) (hE : Lib.TabIs Tryd.prog w "internal/strconv.uint64pow10" .u64 Lib.pow10Tab) :
    Calls Tryd.prog 7 #[.int .i64 n] w fun e w' => e = .returned (.string ⟨(Lib.itoa n).toArray⟩) ∧ Below w.heap.size w w' := by
  go_enter Tryd.func7, Tryd.ntmps7
  go_wp2_with fail
  refine (Tryd.strconv_Itoa n h0 h1 w hE).mono ?_
  rintro e w' ⟨rfl, k, os, rfl⟩
  have HB := below_grow w k os
  go_wp2
  go_ret
  exact ⟨rfl, HB⟩

theorem l1In_calls (x a b : Int) (w : World) : Calls Tryd.prog 14 #[.int .i64 x, .int .i64 a, .int .i64 b] w fun e w' => e = .returned (.bool (decide (a ≤ x) && decide (x ≤ b))) ∧ w = w' := by
  go_enter Tryd.func14, Tryd.ntmps14
  go_wp2
  all_goals (go_ret; exact ⟨by simp [*] <;> omega, rfl⟩)
theorem in_calls (x a b : Int) (w : World) : Calls Tryd.prog 16 #[.int .i64 x, .int .i64 a, .int .i64 b] w fun e w' => e = .returned (.bool (decide (a ≤ x) && decide (x ≤ b))) ∧ w = w' := by
  go_enter Tryd.func16, Tryd.ntmps16
  go_wp2
  all_goals (go_ret; exact ⟨by simp [*] <;> omega, rfl⟩)

/-- What both ParseNum answer. -/
def pnV (l : List UInt8) : Value := match pn l with | some v => .tuple #[.int .i64 v, .bool true] | none => .tuple #[.int .i64 0, .bool false]
theorem pnV_no {l : List UInt8} (h : pn l = none) : pnV l = .tuple #[.int .i64 0, .bool false] := by unfold pnV; rw [h]
theorem pnV_yes {l : List UInt8} {v : Nat} (h : pn l = some v) : pnV l = .tuple #[.int .i64 v, .bool true] := by unfold pnV; rw [h]

theorem implParseNum_calls (s : ByteArray) (w : World) (hs : s.size ≤ 140737488351232) (hE : Env w) :
    Calls Tryd.prog 9 #[.string s] w fun e w' => e = .returned (pnV s.data.toList) ∧ Below w.heap.size w w' := by
  cases hA : Lib.atoiAll s.data.toList with
  | ok v =>
    have hbd := Lib.atoiAll_bounds hA
    have hp := pn_atoi_ok hA
    have HA := Aside0.mk hA
    clear hA
    go_enter Tryd.func9, Tryd.ntmps9
    go_wp2_with fail
    refine (Tryd.strconv_Atoi_ok s (by omega) v HA.out w).mono ?_
    rintro e w1 ⟨rfl, hw⟩
    have HB : Below w.heap.size w w1 := by
      rcases hw with rfl | ⟨t, rfl⟩
      · exact Below.refl _ _
      · exact below_bytes w _ t
    clear hw
    by_cases hr : 0 ≤ v ∧ v ≤ 9999
    · have hr' : (decide (0 ≤ v) && decide (v ≤ 9999)) = true := by simp [hr]
      have hE1 := hE.below HB
      by_cases he : Lib.itoa v = s.data.toList
      · rw [if_pos ⟨hr.1, hr.2, he⟩] at hp
        have hfin := Aside0.mk (pnV_yes hp)
        have hx : (⟨(Lib.itoa v).toArray⟩ : ByteArray) = s := str_ext (by rw [← he])
        clear hp he
        go_wp2_with fail
        refine (in_calls _ _ _ _).mono ?_
        rintro e w2 ⟨rfl, rfl⟩
        rw [hr']
        go_wp2_with fail
        refine (implNumText_calls v _ hbd.1 hbd.2 hE1.tab).mono ?_
        rintro e w2 ⟨rfl, hb2⟩
        rw [hx]
        go_wp2
        go_ret2
        exact ⟨by rw [hfin.out, Int.toNat_of_nonneg hr.1]; rfl, below_then HB hb2⟩
      · rw [if_neg (fun h => he h.2.2)] at hp
        have hfin := Aside0.mk (pnV_no hp)
        have hx : ((⟨(Lib.itoa v).toArray⟩ : ByteArray).toList == s.toList) = false := by
          rw [ByteArray.toList_eq, ByteArray.toList_eq]
          simpa using he
        have hx2 : ((⟨(Lib.itoa v).toArray⟩ : ByteArray).toList != s.toList) = true := by
          rw [ByteArray.toList_eq, ByteArray.toList_eq]
          simpa using he
        have hx3 : ¬ ((⟨(Lib.itoa v).toArray⟩ : ByteArray).toList = s.toList) := by
          rw [ByteArray.toList_eq, ByteArray.toList_eq]
          simpa using he
        clear hp he
        go_wp2_with fail
        refine (in_calls _ _ _ _).mono ?_
        rintro e w2 ⟨rfl, rfl⟩
        rw [hr']
        go_wp2_with fail
        refine (implNumText_calls v _ hbd.1 hbd.2 hE1.tab).mono ?_
        rintro e w2 ⟨rfl, hb2⟩
        generalize (⟨(Lib.itoa v).toArray⟩ : ByteArray) = z at *
        go_wp2
        go_ret2
        exact ⟨by rw [hfin.out]; rfl, below_then HB hb2⟩
    · rw [if_neg (fun h => hr ⟨h.1, h.2.1⟩)] at hp
      have hr' : (decide (0 ≤ v) && decide (v ≤ 9999)) = false := by simp; omega
      have hfin := Aside0.mk (pnV_no hp)
      clear hp
      go_wp2_with fail
      refine (in_calls _ _ _ _).mono ?_
      rintro e w2 ⟨rfl, rfl⟩
      rw [hr']
      go_wp2
      go_ret2
      exact ⟨by rw [hfin.out]; rfl, HB⟩
  | range =>
    have hfin := Aside0.mk (pnV_no (pn_atoi_no (l := s.data.toList) (fun v h => by rw [hA] at h; cases h)))
    have HA := Aside0.mk hA
    clear hA
    obtain ⟨tp, p, hv⟩ := hE.ran
    have HV := Aside0.mk hv
    clear hv
    go_enter Tryd.func9, Tryd.ntmps9
    go_wp2_with fail
    refine (Tryd.strconv_Atoi_range_var s (by omega) HA.out tp p w HV.out).mono ?_
    rintro e w1 ⟨N, rfl, _, _, HB⟩
    go_wp2
    go_ret2
    exact ⟨by rw [hfin.out]; rfl, HB⟩
  | _ =>
    have hfin := Aside0.mk (pnV_no (pn_atoi_no (l := s.data.toList) (fun v h => by rw [hA] at h; cases h)))
    have HA := Aside0.mk (show (∀ v, Lib.atoiAll s.data.toList ≠ .ok v) ∧ Lib.atoiAll s.data.toList ≠ .range from ⟨fun v h => (by rw [hA] at h; cases h), fun h => (by rw [hA] at h; cases h)⟩)
    clear hA
    obtain ⟨tp, p, hv⟩ := hE.syn
    have HV := Aside0.mk hv
    clear hv
    go_enter Tryd.func9, Tryd.ntmps9
    go_wp2_with fail
    refine (Tryd.strconv_Atoi_syntax_var s (by omega) HA.out tp p w HV.out).mono ?_
    rintro e w1 ⟨N, rfl, _, _, HB⟩
    go_wp2
    go_ret2
    exact ⟨by rw [hfin.out]; rfl, HB⟩

theorem str_get (s : ByteArray) (k : Nat) (h : k < s.size) : s.data.toList[k]? = some s[k] := by
  rw [List.getElem?_eq_getElem (by rw [str_size]; exact h)]; rfl
theorem str_take (s : ByteArray) (k : Nat) (h : k < s.size) : s.data.toList.take (k + 1) = s.data.toList.take k ++ [s[k]] := by
  rw [List.take_succ_eq_append_getElem (by rw [str_size]; exact h)]; rfl
theorem str_mem (s : ByteArray) (k : Nat) (h : k < s.size) : s[k] ∈ s.data.toList := List.mem_of_getElem? (str_get s k h)

theorem specParseNum_loop (s : ByteArray) (w : World) (h0 : 0 < s.size) (h4 : s.size ≤ 4) (hh : ¬ (1 < s.size ∧ s[0] = 48)) (hz' : ((s.size : Int) == 0) = false) :
    Calls Tryd.prog 8 #[.string s] w fun e w' => e = .returned (pnV s.data.toList) ∧ Below w.heap.size w w' := by
  have hlen := str_size s
  have hd0 : s.data.toList.headD 0 = s[0] := by
    have := str_get s 0 h0
    cases hl : s.data.toList with
    | nil => rw [hl] at this; cases this
    | cons c r => rw [hl] at this; injection this
  have hgood := Aside0.mk (show s.data.toList.all isDig = true → pn s.data.toList = some (valOf 0 s.data.toList) by
    intro ha
    unfold pn
    rw [if_neg]
    simp only [not_or, not_and]
    exact ⟨by omega, by omega, fun h => by rw [hd0]; exact fun e => hh ⟨by omega, e⟩, by simp [ha]⟩)
  have hall := Aside0.mk hlen
  clear hd0 hlen
  have hg : decide ((4 : Int) < (s.size : Int)) = false := by simp; omega
  have go : (1 < s.size → ((s[0].toNat : Int) == 48) = false) → Calls Tryd.prog 8 #[.string s] w fun e w' => e = .returned (pnV s.data.toList) ∧ Below w.heap.size w w' := by
    intro h48
    by_cases h1 : 1 < s.size
    all_goals
      try have h48' := h48 h1
      clear hh h48
      go_enter Tryd.func8, Tryd.ntmps8
      go_wp2
      go_loopg [4, 5] s.size (fun k n i wr => ∃ (j : Nat), i = .int .i64 j ∧ n = .int .i64 (valOf 0 (s.data.toList.take j)) ∧ j + k = s.size ∧ Aside ((s.data.toList.take j).all isDig = true) ∧ wr = w)
      case atStart => exact ⟨0, rfl, rfl, by omega, rfl, rfl⟩
      case round =>
        obtain ⟨j, rfl, rfl, hk, ha, rfl⟩ := hrel
        by_cases hlt : j < s.size
        · have hv := valOf_lt _ 0 ha.out
          have hv2 : valOf 0 (s.data.toList.take j) < 1000 := by
            have h3 : (s.data.toList.take j).length ≤ 3 := by rw [List.length_take]; omega
            have := Nat.pow_le_pow_right (n := 10) (by omega) h3
            omega
          clear hv
          cases hq : isDig s[j] with
          | true =>
            have hb := isDig_of hq
            have hnx := Aside0.mk (show valOf 0 (s.data.toList.take (j + 1)) = valOf 0 (s.data.toList.take j) * 10 + (s[j].toNat - 48) by rw [str_take s j hlt, valOf_snoc])
            have hna := Aside0.mk (show (s.data.toList.take (j + 1)).all isDig = true by rw [str_take s j hlt, List.all_append, ha.out]; simp [hq])
            have hr' : (decide ((48 : Int) ≤ (s[j].toNat : Int)) && decide ((s[j].toNat : Int) ≤ 57)) = true := by simp; omega
            clear hq ha
            generalize valOf 0 (s.data.toList.take j) = a at *
            go_wp2_with fail
            refine (l1In_calls _ _ _ _).mono ?_
            rintro e w2 ⟨rfl, rfl⟩
            rw [hr']
            go_wp2
            go_roundg (s.size - (j + 1))
            case measure => omega
            case rel => exact ⟨j + 1, by go_num, by rw [hnx.out]; go_num, by omega, hna.out, rfl⟩
          | false =>
            have hfin := Aside0.mk (pnV_no (pn_none_dig (str_mem s j hlt) hq))
            have hr' : (decide ((48 : Int) ≤ (s[j].toNat : Int)) && decide ((s[j].toNat : Int) ≤ 57)) = false := by
              unfold isDig at hq
              simp at hq ⊢
              omega
            have hb8 : s[j].toNat < 256 := s[j].toNat_lt
            clear hq ha
            generalize valOf 0 (s.data.toList.take j) = a at *
            go_wp2_with fail
            refine (l1In_calls _ _ _ _).mono ?_
            rintro e w2 ⟨rfl, rfl⟩
            rw [hr']
            go_wp2
            go_ret2
            exact ⟨by rw [hfin.out]; rfl, Below.refl _ _⟩
        · obtain rfl : j = s.size := by omega
          have e1 : s.data.toList.take s.size = s.data.toList := List.take_of_length_le (by rw [hall.out]; exact Nat.le_refl _)
          rw [e1] at ha ⊢
          have hfin := Aside0.mk (pnV_yes (hgood.out ha.out))
          clear ha e1
          go_wp2
          go_ret2
          exact ⟨by rw [hfin.out]; rfl, Below.refl _ _⟩
  exact go (fun h1 => by
    have : s[0] ≠ 48 := fun e => hh ⟨h1, e⟩
    simp only [beq_eq_false_iff_ne, ne_eq]
    intro e
    exact this (UInt8.toNat_inj.1 (by have : s[0].toNat = 48 := by omega
                                      exact this)))

theorem specParseNum_calls (s : ByteArray) (w : World) :
    Calls Tryd.prog 8 #[.string s] w fun e w' => e = .returned (pnV s.data.toList) ∧ Below w.heap.size w w' := by
  have hlen := str_size s
  by_cases hz : s.size = 0
  · have hfin := Aside0.mk (pnV_no (show pn s.data.toList = none by unfold pn; rw [if_pos (.inl (by omega))]))
    have hz' : ((s.size : Int) == 0) = true := by simp [hz]
    clear hlen hz
    go_enter Tryd.func8, Tryd.ntmps8
    go_wp2
    go_ret2
    exact ⟨by rw [hfin.out]; rfl, Below.refl _ _⟩
  have hz' : ((s.size : Int) == 0) = false := by simp [hz]
  by_cases h4 : 4 < s.size
  · have hfin := Aside0.mk (pnV_no (show pn s.data.toList = none by unfold pn; rw [if_pos (.inr (.inl (by omega)))]))
    clear hlen
    go_enter Tryd.func8, Tryd.ntmps8
    go_wp2
    go_ret2
    exact ⟨by rw [hfin.out]; rfl, Below.refl _ _⟩
  have h0 : 0 < s.size := by omega
  have hd0 : s.data.toList.headD 0 = s[0] := by
    have := str_get s 0 h0
    cases hl : s.data.toList with
    | nil => rw [hl] at this; cases this
    | cons c r => rw [hl] at this; injection this
  have loop := fun h => specParseNum_loop s w h0 (by omega) h hz'
  by_cases h1 : 1 < s.size
  · by_cases h48 : s[0] = 48
    · have hfin := Aside0.mk (pnV_no (show pn s.data.toList = none by unfold pn; rw [if_pos (.inr (.inr (.inl ⟨by omega, by rw [hd0]; exact h48⟩)))]))
      have h48' : ((s[0].toNat : Int) == 48) = true := by rw [h48]; rfl
      clear hlen h48 hd0 loop
      go_enter Tryd.func8, Tryd.ntmps8
      go_wp2
      go_ret2
      exact ⟨by rw [hfin.out]; rfl, Below.refl _ _⟩
    · exact loop (fun h => h48 h.2)
  · exact loop (fun h => h1 h.1)

theorem numText_law (n : Int) (w : World) (h0 : -9223372036854775808 ≤ n) (h1 : n ≤ 9223372036854775807) (hE : Lib.TabIs Tryd.prog w "internal/strconv.uint64pow10" .u64 Lib.pow10Tab) :
    Calls Tryd.prog 3 #[.int .i64 n] w fun e w' => e = .returned (.bool true) ∧ Below w.heap.size w w' := by
  have HE := Aside0.mk hE
  clear hE
  go_enter Tryd.func3, Tryd.ntmps3
  go_wp2_with fail
  refine (specNumText_calls n w h0 h1).mono ?_
  rintro e w1 ⟨rfl, hb1⟩
  go_wp2_with fail
  refine (implNumText_calls n w1 h0 h1 (var_stays hb1 HE.out)).mono ?_
  rintro e w2 ⟨rfl, hb2⟩
  generalize (⟨(Lib.itoa n).toArray⟩ : ByteArray) = z
  go_wp2
  go_ret
  exact ⟨rfl, below_then hb1 hb2⟩

theorem parseNum_law (s : ByteArray) (w : World) (hs : s.size ≤ 140737488351232) (hE : Env w) :
    Calls Tryd.prog 4 #[.string s] w fun e w' => e = .returned (.bool true) ∧ Below w.heap.size w w' := by
  have HE := Aside0.mk hE
  clear hE
  have hv : ∃ (a : Int) (b : Bool), pnV s.data.toList = .tuple #[.int .i64 a, .bool b] := by
    unfold pnV
    split
    · exact ⟨_, _, rfl⟩
    · exact ⟨_, _, rfl⟩
  obtain ⟨a, b, hv⟩ := hv
  have HV := Aside0.mk hv
  clear hv
  by_cases hbig : 1048576 < s.size
  · go_enter Tryd.func4, Tryd.ntmps4
    go_wp2
    go_ret
    exact ⟨rfl, Below.refl _ _⟩
  · go_enter Tryd.func4, Tryd.ntmps4
    go_wp2_with fail
    refine (specParseNum_calls s w).mono ?_
    rintro e w1 ⟨rfl, hb1⟩
    rw [HV.out]
    go_wp2_with fail
    refine (implParseNum_calls s w1 hs (HE.out.below hb1)).mono ?_
    rintro e w2 ⟨rfl, hb2⟩
    rw [HV.out]
    go_wp2
    all_goals
      go_ret
      exact ⟨rfl, below_then hb1 hb2⟩
end Go.Proofs.YticjmglmgdmjbaaDoor
