/- EntsOk, of both; what the own names are. -/
import Derived.Test.YtmfkdgdamepbcaaGreatDoorOkA
import Derived.Test.YtmfkdgdamepbcaaGreatDoorBase
import Derived.BigQuiet
import Derived.Deep.RegionHeld3
namespace Go.Proofs.YtmfkdgdamepbcaaGreatDoor
open Go.RowKit Go.Lib
set_option linter.unusedVariables false
set_option linter.unusedSimpArgs false
set_option maxHeartbeats 4000000
set_option maxRecDepth 20000
/-! ### plain: an Ent is a Dcl (name, value) -/
def knownL : List ByteArray := [⟨#[108, 116]⟩, ⟨#[103, 116]⟩, ⟨#[97, 109, 112]⟩, ⟨#[97, 112, 111, 115]⟩, ⟨#[113, 117, 111, 116]⟩]
def isKnown (s : ByteArray) : Bool := knownL.any fun x => decide (s = x)
def knownV (s : ByteArray) : ByteArray :=
  if s = ⟨#[108, 116]⟩ then ⟨#[60]⟩ else if s = ⟨#[103, 116]⟩ then ⟨#[62]⟩ else if s = ⟨#[97, 109, 112]⟩ then ⟨#[38]⟩ else if s = ⟨#[97, 112, 111, 115]⟩ then ⟨#[39]⟩ else if s = ⟨#[113, 117, 111, 116]⟩ then ⟨#[34]⟩ else ⟨#[]⟩
theorem bytes_ne {a b : Array UInt8} (h : a ≠ b) : (⟨a⟩ : ByteArray) ≠ ⟨b⟩ := fun e => h (by injection e)
theorem known_yes {s : ByteArray} (h : isKnown s = true) : ¬ knownV s = ⟨#[]⟩ := by
  simp only [isKnown, knownL, List.any_cons, List.any_nil, Bool.or_false, Bool.or_eq_true, decide_eq_true_eq] at h
  unfold knownV
  rcases h with h | h | h | h | h
  all_goals (repeat' split)
  all_goals first | exact bytes_ne (by decide) | (exact absurd h (by assumption))
theorem known_no {s : ByteArray} (h : isKnown s = false) : knownV s = ⟨#[]⟩ := by
  simp only [isKnown, knownL, List.any_cons, List.any_nil, Bool.or_false, Bool.or_eq_false_iff, decide_eq_false_iff_not] at h
  unfold knownV
  rw [if_neg h.1, if_neg h.2.1, if_neg h.2.2.1, if_neg h.2.2.2.1, if_neg h.2.2.2.2]
def entIdx (l : List Dcl) (p : ByteArray) : Int := idxB (fun e => decide (e.pre = p)) l
def entHead (e : Dcl) : Bool := plainOk e.pre && (!isKnown e.pre && textOk e.uri)
def entGood (l : List Dcl) (i : Nat) : Bool := match l[i]? with | none => true | some e => entHead e && decide (entIdx l e.pre = (i : Int))
def entsGo (l : List Dcl) (i : Nat) : Bool := (List.range i).all (entGood l)
def entsOk (l : List Dcl) : Bool := entsGo l l.length && decide (l.length ≤ 4)
theorem entsGo_step {l : List Dcl} {i : Nat} (h : entsGo l i = true) (h2 : entGood l i = true) : entsGo l (i + 1) = true := by
  rw [entsGo, List.range_succ, List.all_append]
  simp only [List.all_cons, List.all_nil, Bool.and_true, Bool.and_eq_true]
  exact ⟨h, h2⟩
theorem entsGo_bad {l : List Dcl} {i n : Nat} (h : i < n) (h2 : entGood l i = false) : entsGo l n = false :=
  List.all_eq_false.2 ⟨i, List.mem_range.2 h, by rw [h2]; decide⟩
theorem entGood_at {l : List Dcl} {i : Nat} (h : i < l.length) : entGood l i = (entHead (l[i]'h) && decide (entIdx l (l[i]'h).pre = (i : Int))) := by
  rw [entGood, List.getElem?_eq_getElem h]
theorem idxB_le {α : Type} (p : α → Bool) : ∀ (xs : List α) (j : Nat) (hj : j < xs.length), p (xs[j]'hj) = true → idxB p xs ≤ j
  | x :: xs, 0, _, h => by
    have h : p x = true := h
    rw [idxB, if_pos h]; exact Int.le_refl _
  | x :: xs, j + 1, hj, h => by
    have ih := idxB_le p xs j (by simpa using hj) h
    rw [idxB]
    split
    · omega
    · split
      · omega
      · rw [Int.natCast_add]; simp only [Int.natCast_one]; omega
theorem entIdx_new {l : List Dcl} {i : Nat} (h : i < l.length) (hn : ∀ e ∈ l.take i, ¬ e.pre = (l[i]'h).pre) : entIdx l (l[i]'h).pre = (i : Int) :=
  idxB_hit _ l i h (fun y hy => decide_eq_false (hn y hy)) (decide_eq_true rfl)
theorem entIdx_old {l : List Dcl} {i k : Nat} (h : i < l.length) (hk : k < i) (he : (l[k]'(by omega)).pre = (l[i]'h).pre) : ¬ entIdx l (l[i]'h).pre = (i : Int) := by
  have := idxB_le (fun e : Dcl => decide (e.pre = (l[i]'h).pre)) l k (by omega) (decide_eq_true he)
  intro e
  rw [entIdx] at e
  omega
theorem small_ents {l : List Dcl} (h : entsOk l = true) : l.length ≤ 4 ∧ ∀ e ∈ l, plainOk e.pre = true ∧ textOk e.uri = true := by
  simp only [entsOk, Bool.and_eq_true, decide_eq_true_eq] at h
  refine ⟨h.2, fun e he => ?_⟩
  obtain ⟨i, hi, rfl⟩ := List.getElem_of_mem he
  have := List.all_eq_true.1 h.1 i (List.mem_range.2 hi)
  rw [entGood_at hi, entHead, Bool.and_eq_true, Bool.and_eq_true, Bool.and_eq_true] at this
  exact ⟨this.1.1, this.1.2.2⟩
/-! ### walks -/
theorem l3Known_calls (s : ByteArray) (w : World) : Calls Tryz.prog 85 #[.string s] w fun e w' => e = .returned (.string (knownV s)) ∧ w = w' := by
  by_cases h1 : s = ⟨#[108, 116]⟩
  · subst h1
    go_enter Tryz.func85, Tryz.ntmps85
    go_wp2
    go_ret
    exact ⟨rfl, rfl⟩
  have n1 := str_neL [108, 116] h1
  by_cases h2 : s = ⟨#[103, 116]⟩
  · subst h2
    clear n1 h1
    go_enter Tryz.func85, Tryz.ntmps85
    go_wp2
    go_ret
    exact ⟨rfl, rfl⟩
  have n2 := str_neL [103, 116] h2
  by_cases h3 : s = ⟨#[97, 109, 112]⟩
  · subst h3
    clear n1 h1 n2 h2
    go_enter Tryz.func85, Tryz.ntmps85
    go_wp2
    go_ret
    exact ⟨rfl, rfl⟩
  have n3 := str_neL [97, 109, 112] h3
  by_cases h4 : s = ⟨#[97, 112, 111, 115]⟩
  · subst h4
    clear n1 h1 n2 h2 n3 h3
    go_enter Tryz.func85, Tryz.ntmps85
    go_wp2
    go_ret
    exact ⟨rfl, rfl⟩
  have n4 := str_neL [97, 112, 111, 115] h4
  by_cases h5 : s = ⟨#[113, 117, 111, 116]⟩
  · subst h5
    clear n1 h1 n2 h2 n3 h3 n4 h4
    go_enter Tryz.func85, Tryz.ntmps85
    go_wp2
    go_ret
    exact ⟨rfl, rfl⟩
  have n5 := str_neL [113, 117, 111, 116] h5
  have hfin := Aside0.mk (show knownV s = ⟨#[]⟩ by unfold knownV; rw [if_neg h1, if_neg h2, if_neg h3, if_neg h4, if_neg h5])
  clear h1 h2 h3 h4 h5
  go_enter Tryz.func85, Tryz.ntmps85
  go_wp2
  go_ret
  exact ⟨by rw [hfin.out]; rfl, rfl⟩
theorem IndexStr_calls {ok : Nat → Prop} (A : Option Addr) (xs : List ByteArray) (c : Nat) (v : ByteArray) (w : World) (h : Row Kd.str w ok A xs) :
    Calls Tryz.prog 108 #[.slice A xs.length c, .string v] w fun e w' => e = .returned (.int .i64 (idxB (fun x => decide (v = x)) xs)) ∧ w = w' := by
  have hm := h.max
  go_enter Tryz.func108, Tryz.ntmps108
  go_wp2
  go_loopg [5, 8] xs.length (fun k _ i wr => ∃ (j : Nat), i = .int .i64 j ∧ j + k = xs.length ∧ Aside (∀ y ∈ xs.take j, decide (v = y) = false) ∧ w = wr)
  case atStart => exact ⟨0, rfl, by omega, (fun y hy => by simp at hy), rfl⟩
  case round =>
    obtain ⟨j, rfl, hk, ha, rfl⟩ := hrel
    by_cases hlt : j < xs.length
    · obtain ⟨b, o, rfl, hbl, e1⟩ := str_at h j hlt
      by_cases hq : v = xs[j]'hlt
      · have hfin := Aside0.mk (idxB_hit (fun x => decide (v = x)) xs j hlt ha.out (decide_eq_true hq))
        rw [← hq] at e1
        clear ha hq h
        go_wp2
        go_ret
        exact ⟨by rw [hfin.out]; rfl, rfl⟩
      · have hnx := Aside0.mk (take_miss (p := fun x => decide (v = x)) hlt ha.out (decide_eq_false hq))
        have n1 := str_neb hq
        clear ha hq h
        go_wp2
        go_roundg (gk - 1)
        case measure => omega
        case rel => exact ⟨j + 1, by go_num, by omega, hnx.out, rfl⟩
    · obtain rfl : j = xs.length := by omega
      have hfin := Aside0.mk (idxB_miss (fun x => decide (v = x)) xs (by have := ha.out; rwa [List.take_length] at this))
      clear ha h
      go_wp2
      go_ret
      exact ⟨by rw [hfin.out]; rfl, rfl⟩
theorem ContainsStr_calls {ok : Nat → Prop} (A : Option Addr) (xs : List ByteArray) (c : Nat) (v : ByteArray) (w : World) (h : Row Kd.str w ok A xs) :
    Calls Tryz.prog 72 #[.slice A xs.length c, .string v] w fun e w' => e = .returned (.bool (xs.any fun x => decide (v = x))) ∧ w = w' := by
  rw [← idxB_any]
  go_enter Tryz.func72, Tryz.ntmps72
  go_wp2_with fail
  refine (IndexStr_calls A xs c v w h).mono ?_
  rintro e w1 ⟨rfl, rfl⟩
  go_wp2
  go_ret
  exact ⟨rfl, rfl⟩
theorem ownNames_calls (w : World) : Calls Tryz.prog 73 #[] w fun e w' => e = .returned (.slice (some ⟨w.heap.size, 0, none⟩) 5 5) ∧ Row Kd.str w' (fun k => w.heap.size ≤ k) (some ⟨w.heap.size, 0, none⟩) knownL ∧ Below w.heap.size w w' := by
  have hrow := Aside0.mk (row_one (enc := Value.string) (w := w) (ok := fun k => w.heap.size ≤ k) (T := 9) knownL rfl (Nat.le_refl _) (by simp [knownL, maxLen]))
  have hb := Aside0.mk (below_alloc (Below.refl w.heap.size w) (.cells (knownL.map Value.string).toArray 9 (0, 0)))
  go_enter Tryz.func73, Tryz.ntmps73
  go_wp2
  go_ret
  exact ⟨rfl, hrow.out, hb.out⟩
/-- An Ent's name is it. -/
theorem entAt1_calls (e : Dcl) (p : ByteArray) (g : Nat) (w : World) (hn : w.cell? ⟨g, 0, none⟩ = some (.string p)) (hg : g < w.heap.size) :
    Calls Tryz.prog 110 #[.agg #[.string e.pre, .string e.uri], .pointer (some ⟨g, 0, none⟩)] w fun r w' => r = .returned (.bool (decide (e.pre = p))) ∧ Below w.heap.size w w' := by
  obtain ⟨W, hW, HB, hsz, HG⟩ := boxed w #[.string e.pre, .string e.uri] 57
  have c0 := cell_of_row W w.heap.size 0 _ _ _ HG
  simp only [List.getElem?_toArray, List.getElem?_cons_zero, List.getElem?_cons_succ] at c0
  have cp := ((bcell HB).1 g 0 hg).trans hn
  obtain ⟨q, hq⟩ : ∃ q, q = e.pre := ⟨_, rfl⟩
  rw [← hq] at c0 hW ⊢
  have HW := Aside0.mk hW
  clear hW
  clear HG hn hq
  by_cases h : q = p
  · rw [decide_eq_true h]
    subst h
    go_enter Tryz.func110, Tryz.ntmps110
    go_upto_region 1 with fail
    rw [← HW.out]
    go_wp2
    go_ret
    exact ⟨rfl, HB⟩
  · have hfin := Aside0.mk (show decide (q = p) = false from decide_eq_false h)
    have n1 := str_neb h
    clear h
    go_enter Tryz.func110, Tryz.ntmps110
    go_upto_region 1 with fail
    rw [← HW.out]
    go_wp2
    go_ret
    exact ⟨by rw [hfin.out]; rfl, HB⟩
theorem IndexFunc_ent {ok : Nat → Prop} (p : Dcl → Bool) (g : Nat) (lb : Array Value) (eg : ∀ args w, (callFunc g args).run Tryz.prog w = .ok (.enter g args) w) (A : Option Addr) (xs : List Dcl) (c : Nat) (w : World)
    (h : Row Kd.dcl w ok A xs) (hp : ∀ W x, x ∈ xs → Below w.heap.size w W → Calls Tryz.prog g (#[.agg #[.string x.pre, .string x.uri]] ++ lb) W fun e w' => e = .returned (.bool (p x)) ∧ Below W.heap.size W w') :
    Calls Tryz.prog 109 #[.slice A xs.length c, .func (.func g) #[] lb] w fun e w' => e = .returned (.int .i64 (idxB p xs)) ∧ Below w.heap.size w w' := by
  have hm := h.max
  go_enter Tryz.func109, Tryz.ntmps109
  go_wp2
  go_loopg [5, 8] xs.length (fun k _ i wr => ∃ (j : Nat), i = .int .i64 j ∧ j + k = xs.length ∧ Aside (∀ y ∈ xs.take j, p y = false) ∧ Below w.heap.size w wr)
  case atStart => exact ⟨0, rfl, by omega, (fun y hy => by simp at hy), Below.refl _ _⟩
  case round =>
    obtain ⟨j, rfl, hk, ha, hb⟩ := hrel
    by_cases hlt : j < xs.length
    · obtain ⟨b, o, rfl, hbl, d0, d1⟩ := dcl_at (h.below hb) j hlt
      have hcall := hp wr xs[j] (List.getElem_mem hlt) hb
      clear h hp
      cases hq : p xs[j] with
      | true =>
        have hfin := Aside0.mk (idxB_hit p xs j hlt ha.out hq)
        rw [hq] at hcall
        clear hq
        go_wp2_with (go_at_fn g; refine hcall.mono ?_; rintro e w' ⟨rfl, hb'⟩)
        go_ret
        exact ⟨by rw [hfin.out]; rfl, below_then hb hb'⟩
      | false =>
        have hfin := Aside0.mk (take_miss hlt ha.out hq)
        rw [hq] at hcall
        clear hq
        go_wp2_with (go_at_fn g; refine hcall.mono ?_; rintro e w' ⟨rfl, hb'⟩)
        go_roundg (gk - 1)
        case measure => omega
        case rel => exact ⟨j + 1, by go_num, by omega, hfin.out, below_then hb hb'⟩
    · obtain rfl : j = xs.length := by omega
      have hfin := Aside0.mk (idxB_miss p xs (by have := ha.out; rwa [List.take_length] at this))
      clear ha
      go_wp2
      go_ret
      exact ⟨by rw [hfin.out]; rfl, hb⟩
theorem entAt_calls {ok : Nat → Prop} (A : Option Addr) (c : Nat) (l : List Dcl) (p : ByteArray) (w : World) (h : Row Kd.dcl w ok A l) :
    Calls Tryz.prog 74 #[.slice A l.length c, .string p] w fun e w' => e = .returned (.int .i64 (entIdx l p)) ∧ Below w.heap.size w w' := by
  obtain ⟨W, hW, HB, hsz, HG⟩ := boxed w #[.string p] 9
  have c0 := cell_of_row W w.heap.size 0 _ _ _ HG
  simp only [List.getElem?_toArray, List.getElem?_cons_zero] at c0
  have HI := Aside0.mk (IndexFunc_ent (fun e => decide (e.pre = p)) 110 #[.pointer (some ⟨w.heap.size, 0, none⟩)] (enters_of Tryz.func110 (by kernel_rfl) rfl) A l c W (h.below HB)
    (fun W' x hx hb => entAt1_calls x p w.heap.size W' (((bcell hb).1 _ 0 hsz).trans c0) (Nat.lt_of_lt_of_le hsz hb.size)))
  have HW := Aside0.mk hW
  clear hW
  clear HG h
  go_enter Tryz.func74, Tryz.ntmps74
  go_upto_region 1 with fail
  rw [← HW.out]
  go_wp2_with fail
  refine (HI.out).mono ?_
  rintro e w1 ⟨rfl, hb1⟩
  go_wp2
  go_ret
  exact ⟨rfl, below_then HB hb1⟩
theorem specEntsOk_calls {ok : Nat → Prop} (A : Option Addr) (c : Nat) (l : List Dcl) (w : World) (hr : Row Kd.dcl w ok A l) (hz : ∀ d ∈ l, d.pre.size ≤ 1048576 ∧ d.uri.size ≤ 1048576) :
    Calls Tryz.prog 41 #[.slice A l.length c] w fun e w' => e = .returned (.bool (entsOk l)) ∧ Below w.heap.size w w' := by
  have hmax := hr.max
  have Hz := Aside0.mk hz
  clear hz
  obtain ⟨R, hR⟩ : ∃ R, R = entsOk l := ⟨_, rfl⟩
  have HR := Aside0.mk (show R = (entsGo l l.length && decide (l.length ≤ 4)) from hR)
  rw [← hR]
  clear hR
  go_enter Tryz.func41, Tryz.ntmps41
  go_wp2
  go_loopg [3] l.length (fun k i wr => ∃ (j : Nat), i = .int .i64 j ∧ j + k = l.length ∧ Aside (entsGo l j = true) ∧ Below w.heap.size w wr)
  case atStart => exact ⟨0, rfl, by omega, rfl, Below.refl _ _⟩
  case round =>
    obtain ⟨j, rfl, hk, ha, hb⟩ := hrel
    by_cases hlt : j < l.length
    · obtain ⟨b, o, rfl, hbl, d0, d1⟩ := dcl_at (hr.below hb) j hlt
      obtain ⟨z0, z1⟩ := Hz.out _ (List.getElem_mem hlt)
      have i1 : (j : Int) < (l.length : Int) := by omega
      have hg := Aside0.mk (entGood_at hlt)
      have hbad := Aside0.mk (fun h => (show R = false by rw [HR.out, entsGo_bad (n := l.length) hlt h]; rfl))
      obtain ⟨p, hp⟩ : ∃ p, p = (l[j]'hlt).pre := ⟨_, rfl⟩
      obtain ⟨u, hu⟩ : ∃ u, u = (l[j]'hlt).uri := ⟨_, rfl⟩
      have hh := Aside0.mk (show entHead (l[j]'hlt) = (plainOk p && (!isKnown p && textOk u)) by rw [hp, hu]; rfl)
      rw [← hp] at d0 z0
      rw [← hu] at d1 z1
      have HP := Aside0.mk hp
      clear hp hu
      go_wp2_with fail
      refine (specPlainOk_calls p wr (by omega)).mono ?_
      rintro e w1 ⟨rfl, hb1⟩
      have hb01 := below_then hb hb1
      have e0 := (hb1.cell (p := ⟨b, o + j * 2, none⟩) hbl).trans d0
      have e1 := (hb1.cell (p := ⟨b, o + j * 2 + 1, none⟩) hbl).trans d1
      have hbl1 := Nat.lt_of_lt_of_le hbl hb1.size
      clear d0 d1
      cases h1 : plainOk p with
      | false =>
        have hfin := Aside0.mk (hbad.out (by rw [hg.out, hh.out, h1]; rfl))
        clear h1 ha
        go_wp2
        go_ret
        exact ⟨by rw [hfin.out]; rfl, hb01⟩
      | true =>
      have H1 := Aside0.mk h1
      clear h1
      go_wp2_with fail
      refine (l3Known_calls p w1).mono ?_
      rintro e w2 ⟨rfl, rfl⟩
      cases h2 : isKnown p with
      | true =>
        have hfin := Aside0.mk (hbad.out (by rw [hg.out, hh.out, H1.out, h2]; rfl))
        have hne := known_yes h2
        obtain ⟨v, hv⟩ : ∃ v, v = knownV p := ⟨_, rfl⟩
        rw [← hv] at hne ⊢
        have n1 := str_ne0 hne
        have n2 := str_neE hne
        clear h2 ha hv hne
        go_wp2
        go_ret
        exact ⟨by rw [hfin.out]; rfl, hb01⟩
      | false =>
      have H2 := Aside0.mk h2
      rw [known_no h2]
      clear h2
      go_wp2_with fail
      refine (specTextOk_calls u w1 (by omega)).mono ?_
      rintro e w3 ⟨rfl, hb3⟩
      have hb03 := below_then hb01 hb3
      cases h3 : textOk u with
      | false =>
        have hfin := Aside0.mk (hbad.out (by rw [hg.out, hh.out, H1.out, H2.out, h3]; rfl))
        clear h3 ha
        go_wp2
        go_ret
        exact ⟨by rw [hfin.out]; rfl, hb03⟩
      | true =>
      have hhd := Aside0.mk (show entHead (l[j]'hlt) = true by rw [hh.out, H1.out, H2.out, h3]; rfl)
      have f0 := (hb3.cell (p := ⟨b, o + j * 2, none⟩) hbl1).trans e0
      clear h3 e0 e1
      go_wp2
      go_loopg [4] j (fun k i wr => ∃ (m : Nat), i = .int .i64 m ∧ m + k = j ∧ Aside (∀ e ∈ l.take m, ¬ e.pre = p) ∧ Below w3.heap.size w3 wr)
      case atStart => exact ⟨0, rfl, by omega, (fun y hy => by simp at hy), Below.refl _ _⟩
      case round =>
        clear f0
        obtain ⟨m, rfl, hkm, ham, hbm⟩ := hrel
        have hb0m := below_then hb03 hbm
        obtain ⟨b2, o2, hA, hbl2, f0, f1⟩ := dcl_at (hr.below hb0m) j hlt
        injection hA with hA
        injection hA with hA1 hA2
        subst hA1 hA2
        rw [← HP.out] at f0
        by_cases hltm : m < j
        · have hlm : m < l.length := by omega
          obtain ⟨b3, o3, hA, hbl3, g0, g1⟩ := dcl_at (hr.below hb0m) m hlm
          injection hA with hA
          injection hA with hA1 hA2
          subst hA1 hA2
          have i2 : (m : Int) < (l.length : Int) := by omega
          obtain ⟨q, hq⟩ : ∃ q, q = (l[m]'hlm).pre := ⟨_, rfl⟩
          rw [← hq] at g0
          by_cases he : q = p
          · have hfin := Aside0.mk (hbad.out (by rw [hg.out, decide_eq_false (entIdx_old hlt hltm (by rw [← hq, he, HP.out])), Bool.and_false]))
            subst he
            clear ha ham hq f1 g1
            go_wp2
            go_quiet (fail)
            go_wp2
            go_ret
            exact ⟨by rw [hfin.out]; rfl, below_drewN hb0m _⟩
          · have hnx := Aside0.mk (show ∀ e ∈ l.take (m + 1), ¬ e.pre = p from take_all (P := fun e : Dcl => ¬ e.pre = p) hlm ham.out (by rw [← hq]; exact he))
            have n1 := str_neb he
            clear ham hq he f1 g1
            go_wp2
            go_quiet (fail)
            go_wp2
            go_roundg (gk - 1)
            case measure => omega
            case rel => exact ⟨m + 1, by go_num, by omega, hnx.out, below_drewN hbm _⟩
        · obtain rfl : m = j := by omega
          have hnx := Aside0.mk (entsGo_step ha.out (by rw [hg.out, hhd.out, decide_eq_true (entIdx_new hlt (fun e he => by rw [← HP.out]; exact ham.out e he))]; rfl))
          clear ha ham f1
          go_wp2
          go_roundg (l.length - (m + 1))
          case measure => omega
          case rel => exact ⟨m + 1, by go_num, by omega, hnx.out, hb0m⟩
    · have hgo := ha.out
      obtain rfl : j = l.length := by omega
      have hfin := Aside0.mk (show R = decide ((l.length : Int) ≤ 4) by rw [HR.out, hgo, Bool.true_and]; exact decide_eq_decide.2 (by omega))
      clear ha hgo
      go_wp2
      go_ret
      exact ⟨by rw [hfin.out]; rfl, hb⟩
end Go.Proofs.YtmfkdgdamepbcaaGreatDoor
