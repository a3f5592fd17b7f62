/- Joined: PfT, AppIn, PfM. -/
import Derived.Test.YtpcklgkpjmmakaaGreatDoorFill
import Derived.Test.YtpcklgkpjmmakaaGreatDoorBase
import Derived.Test.YtpcklgkpjmmakaaGreatDoorOwnG
import Derived.Test.YtpcklgkpjmmakaaGreatDoorTo
import Derived.RegionTactic
import Derived.Deep.RegionHeld3
import Derived.Test.YtpcklgkpjmmakaaGreatDoorPfA
section
/- The laws' marks of rows of numbers, and of rows of such. -/
namespace Go.Proofs.YtpcklgkpjmmakaaGreatDoor
open Go.RowKit
set_option linter.unusedVariables false
set_option linter.unusedSimpArgs false
set_option maxRecDepth 20000
set_option maxHeartbeats 4000000
def imk (k i : Nat) : Value := .int .i64 ((k + i : Nat) : Int)
def imarks (k n : Nat) : List Value := (List.range n).map (imk k)
theorem imarks_get {k n i : Nat} (h : i < n) : (imarks k n)[i]? = some (imk k i) := by simp [imarks, h]
theorem imarks_length (k n : Nat) : (imarks k n).length = n := by simp [imarks]
theorem own_none {base size n c m : Nat} {e : TypeId} {cells : List Value} {w : World} (ho : w.ownsRow base e size (.slice none m c) n cells) : n = 0 := by
  rcases ho.2 with ⟨_, h⟩ | ⟨g, cap, cur, h, _⟩
  · exact h
  · cases h
theorem own_addr {base size n c m : Nat} {e : TypeId} {cells : List Value} {w : World} {a : Addr} (ho : w.ownsRow base e size (.slice (some a) m c) n cells) : ∃ g, a = ⟨g, 0, none⟩ ∧ g < w.heap.size ∧ base ≤ g := by
  rcases ho.2 with ⟨h, _⟩ | ⟨g, cap, cur, h, hb, hh, _⟩
  · cases h
  · injection h with h _ _
    injection h with h
    exact ⟨g, h, (Array.getElem?_eq_some_iff.1 hh).1, hb⟩
theorem own_len {base size n c m : Nat} {e : TypeId} {cells : List Value} {w : World} {A : Option Addr} (ho : w.ownsRow base e size (.slice A m c) n cells) : m = n ∧ n ≤ maxLen := by
  rcases ho.2 with ⟨h, h0⟩ | ⟨g, cap, cur, h, hb, hh, h1, h2, _⟩
  · injection h with _ h2 _
    exact ⟨by omega, by omega⟩
  · injection h with _ h3 _
    exact ⟨h3, by omega⟩
theorem markIntS_calls (A : Option Addr) (n c k base : Nat) (cells : List Value) (w : World) (ho : w.ownsRow base 3 1 (.slice A n c) n cells) (hk2 : k + n ≤ 1000000000) :
    Calls Tryz.prog 33 #[.slice A n c, .int .i64 (k : Nat)] w fun e w' => e = .returned (.int .i64 ((k + n : Nat) : Int)) ∧ w'.ownsRow base 3 1 (.slice A n c) n (imarks k n) ∧ w.grownBy w' (Value.slice A n c).ownBlock := by
  have hn9 : n ≤ 1000000000 := by omega
  cases A with
  | none =>
    obtain rfl := own_none ho
    have ho2 := Aside0.mk (show w.ownsRow base 3 1 (.slice none 0 c) 0 (imarks k 0) by
      obtain ⟨hl, hh⟩ := ho
      refine ⟨rfl, ?_⟩
      rcases hh with ⟨h, _⟩ | ⟨g, cap, cur, h, _⟩
      · exact .inl ⟨h, rfl⟩
      · cases h)
    clear ho
    go_enter Tryz.func33, Tryz.ntmps33
    go_wp2
    go_loopg [1, 5] 0 (fun gd u i wr => u = .int .i64 (k : Nat) ∧ i = .int .i64 0 ∧ wr = w)
    case atStart => exact ⟨rfl, rfl, rfl⟩
    case round =>
      obtain ⟨rfl, rfl, rfl⟩ := hrel
      go_wp2
      go_ret
      exact ⟨rfl, ho2.out, ⟨rfl, rfl, rfl, Nat.le_refl _, fun _ _ _ => rfl⟩⟩
  | some a =>
    obtain ⟨g, rfl, hg, _⟩ := own_addr ho
    have ho0 := Aside0.mk ho
    clear ho
    go_enter Tryz.func33, Tryz.ntmps33
    go_wp2
    go_loopg [1, 5] n (fun gd u i wr => ∃ (j : Nat) (cs : List Value), u = .int .i64 ((k + j : Nat) : Int) ∧ i = .int .i64 (j : Nat) ∧ j + gd = n ∧ Aside (wr.ownsRow base 3 1 (.slice (some ⟨g, 0, none⟩) n c) n cs) ∧ Aside (∀ i, i < j → cs[i]? = some (imk k i)) ∧ Aside (Moved g w wr))
    case atStart => exact ⟨0, _, rfl, rfl, by omega, ho0.out, (fun i hi => by omega), Moved.refl _ _⟩
    case round =>
      obtain ⟨j, cs, rfl, rfl, hj, hO, hM, hm⟩ := hrel
      by_cases hlt : j < n
      · have hO1 := hO.out
        obtain ⟨⟨u0, hu0⟩, hf0⟩ := fill_cellN hO1 (i := j) (by omega)
        have hO2 := Aside0.mk (hO1.stored j (imk k j)).1
        have hm2 := Aside0.mk (hm.out.set (o := j) (u := imk k j))
        have hcl : cs.length = n * 1 := hO1.1
        have hM4 := Aside0.mk (show ∀ i, i < j + 1 → (cs.set j (imk k j))[i]? = some (imk k i) from fun i hi => by
          rw [List.getElem?_set]
          split
          · rename_i e
            subst e
            rw [if_pos (by omega)]
          · exact hM.out i (by omega))
        clear hO1 hcl
        go_wp2
        go_roundg (gk - 1)
        case measure => omega
        case rel => exact ⟨j + 1, _, by go_num, by go_num, by omega, hO2.out, hM4.out, hm2.out⟩
      · have hfin := Aside0.mk (show k + j = k + n by omega)
        have hO2 := Aside0.mk (show wr.ownsRow base 3 1 (.slice (some ⟨g, 0, none⟩) n c) n (imarks k n) by
          have e : cs = imarks k n := by
            apply List.ext_getElem?
            intro i
            by_cases hi : i < n
            · rw [hM.out i (by omega), imarks_get hi]
            · rw [List.getElem?_eq_none (by rw [hO.out.1]; omega), List.getElem?_eq_none (by rw [imarks_length]; omega)]
          rw [← e]; exact hO.out)
        go_wp2
        go_ret
        exact ⟨by rw [← hfin.out]; rfl, hO2.out, ⟨hm.out.os, hm.out.tape, hm.out.output, hm.out.size, fun k hk hne => hm.out.block k hk (fun e => hne (by rw [e]; rfl))⟩⟩
theorem heldIntS_calls (A : Option Addr) (n c k base : Nat) (w : World) (ho : w.ownsRow base 3 1 (.slice A n c) n (imarks k n)) (hk2 : k + n ≤ 1000000000) :
    Calls Tryz.prog 77 #[.slice A n c, .int .i64 (k : Nat)] w fun e w' => e = .returned (.int .i64 ((k + n : Nat) : Int)) ∧ Drawn w w' := by
  have hn9 : n ≤ 1000000000 := by omega
  have hcell : ∀ j, j < n → ∃ g, A = some ⟨g, 0, none⟩ ∧ g < w.heap.size ∧ w.cell? ⟨g, j, none⟩ = some (imk k j) := fun j hj => by
    cases A with
    | none => have := own_none ho; omega
    | some a =>
      obtain ⟨g, rfl, hg, _⟩ := own_addr ho
      exact ⟨g, rfl, hg, (ho.cellAt j (by omega)).trans (imarks_get hj)⟩
  replace hcell := Aside0.mk hcell
  clear ho
  go_enter Tryz.func77, Tryz.ntmps77
  go_wp2
  go_loopg [1, 5] n (fun gd u i wr => ∃ (j : Nat), u = .int .i64 ((k + j : Nat) : Int) ∧ i = .int .i64 (j : Nat) ∧ j + gd = n ∧ Drawn w wr)
  case atStart => exact ⟨0, rfl, rfl, by omega, Drawn.refl _⟩
  case round =>
    obtain ⟨j, rfl, rfl, hj, hd⟩ := hrel
    by_cases hlt : j < n
    · obtain ⟨g, rfl, hg, hc⟩ := hcell.out j hlt
      have hc' := ((bcell hd.below).1 g j hg).trans hc
      rw [imk] at hc'
      clear hc
      go_wp2
      go_roundg (gk - 1)
      case measure => omega
      case rel => exact ⟨j + 1, by go_num, by go_num, by omega, hd⟩
    · have hfin := Aside0.mk (show k + j = k + n by omega)
      go_wp2
      go_ret
      exact ⟨by rw [← hfin.out]; rfl, hd⟩
/-- A row of rows of numbers, each in a block of its own. -/
structure MM (w : World) (base : Nat) (vk : Value) (sl : List Value) (ns : List Nat) (cs : Nat → List Value) : Prop where
  outer : w.ownsRow base 29 1 vk sl.length sl
  len : ns.length = sl.length
  each : ∀ i (h : i < sl.length) (h' : i < ns.length), ∃ A c, sl[i]'h = .slice A (ns[i]'h') c ∧ w.ownsRow base 3 1 (.slice A (ns[i]'h') c) (ns[i]'h') (cs i)
  dk : ∀ i (h : i < sl.length), ∀ k, (sl[i]'h).ownBlock = some k → vk.ownBlock ≠ some k
  dd : ∀ i j (h : i < sl.length) (h' : j < sl.length), i ≠ j → ∀ k, (sl[i]'h).ownBlock = some k → (sl[j]'h').ownBlock ≠ some k
/-- Only the blocks of these slices change, and new ones. -/
structure InB (sl : List Value) (w w' : World) : Prop where
  os : w'.os = w.os
  tape : w'.tape = w.tape
  output : w'.output = w.output
  size : w.heap.size ≤ w'.heap.size
  block : ∀ k, k < w.heap.size → (∀ v ∈ sl, v.ownBlock ≠ some k) → w'.heap[k]? = w.heap[k]?
theorem InB.refl (sl : List Value) (w : World) : InB sl w w := ⟨rfl, rfl, rfl, Nat.le_refl _, fun _ _ _ => rfl⟩
theorem InB.grown {sl : List Value} {a b c : World} (h : InB sl a b) {v : Value} (hv : v ∈ sl) (g : b.grownBy c v.ownBlock) : InB sl a c :=
  ⟨g.os.trans h.os, g.tape.trans h.tape, g.output.trans h.output, Nat.le_trans h.size g.size, fun k hk hn => (g.block k (Nat.lt_of_lt_of_le hk h.size) (fun e => hn v hv e.symm)).trans (h.block k hk hn)⟩
theorem own_kept {base size n : Nat} {e : TypeId} {v : Value} {cells : List Value} {w w1 : World} (h : w.ownsRow base e size v n cells) (hs : ∀ k, v.ownBlock = some k → k < w.heap.size → w1.heap[k]? = w.heap[k]?) : w1.ownsRow base e size v n cells := by
  obtain ⟨hcl, hh⟩ := h
  refine ⟨hcl, ?_⟩
  rcases hh with hh | ⟨b, cap, cur, rfl, hb, hh, hl⟩
  · exact .inl hh
  · exact .inr ⟨b, cap, cur, rfl, hb, (hs b rfl (Array.getElem?_eq_some_iff.1 hh).1).trans hh, hl⟩
theorem MM.same {w w1 : World} {base : Nat} {vk : Value} {sl : List Value} {ns : List Nat} {cs : Nat → List Value} (h : MM w base vk sl ns cs) (hs : ∀ k, base ≤ k → k < w.heap.size → w1.heap[k]? = w.heap[k]?) : MM w1 base vk sl ns cs :=
  ⟨own_kept h.outer (fun k hk hlt => hs k (h.outer.lt k hk).1 hlt), h.len, fun i hi hi' => by
    obtain ⟨A, c, e, ho⟩ := h.each i hi hi'
    exact ⟨A, c, e, own_kept ho (fun k hk hlt => hs k (ho.lt k hk).1 hlt)⟩, h.dk, h.dd⟩
theorem MM.below {w w1 : World} {base : Nat} {vk : Value} {sl : List Value} {ns : List Nat} {cs : Nat → List Value} (h : MM w base vk sl ns cs) (hb : Below w.heap.size w w1) : MM w1 base vk sl ns cs := h.same (fun k _ hk => hb.block k hk)
def pre (ns : List Nat) (i : Nat) : Nat := (ns.take i).sum
theorem pre_succ {ns : List Nat} {i : Nat} (h : i < ns.length) : pre ns (i + 1) = pre ns i + ns[i]'h := by
  rw [pre, pre, List.take_succ_eq_append_getElem h, List.sum_append]
  simp
theorem pre_le (ns : List Nat) (i : Nat) : pre ns i ≤ ns.sum := by
  rw [pre]
  conv => rhs; rw [← List.take_append_drop i ns, List.sum_append]
  omega
def mmk (k : Nat) (ns : List Nat) (i : Nat) : List Value := imarks (k + pre ns i) (ns[i]?.getD 0)
theorem mmk_at {k : Nat} {ns : List Nat} {i : Nat} (h : i < ns.length) : mmk k ns i = imarks (k + pre ns i) (ns[i]'h) := by rw [mmk, List.getElem?_eq_getElem h]; rfl
/-- One of the rows is written. -/
theorem MM.put {w w1 : World} {base : Nat} {vk : Value} {sl : List Value} {ns : List Nat} {cs cs' : Nat → List Value} (h : MM w base vk sl ns cs) (j : Nat) (hj : j < sl.length) (hj' : j < ns.length) (g : w.grownBy w1 (sl[j]'hj).ownBlock)
    (hn : ∃ A c, sl[j]'hj = .slice A (ns[j]'hj') c ∧ w1.ownsRow base 3 1 (.slice A (ns[j]'hj') c) (ns[j]'hj') (cs' j)) (hc : ∀ i, i ≠ j → cs' i = cs i) : MM w1 base vk sl ns cs' := by
  refine ⟨own_kept h.outer (fun k hk hlt => g.block k hlt (fun e => h.dk j hj k e.symm hk)), h.len, fun i hi hi' => ?_, h.dk, h.dd⟩
  by_cases e : i = j
  · subst e; exact hn
  · obtain ⟨A, c, he, ho⟩ := h.each i hi hi'
    refine ⟨A, c, he, ?_⟩
    rw [hc i e]
    exact own_kept ho (fun k hk hlt => g.block k hlt (fun e' => h.dd i j hi hj e k (by rw [he]; exact hk) e'.symm))
theorem markIntSS_calls (A : Option Addr) (n c k base : Nat) (sl : List Value) (ns : List Nat) (cs : Nat → List Value) (w : World) (hn : n = sl.length) (ho : MM w base (.slice A n c) sl ns cs) (hk2 : k + ns.sum ≤ 1000000000) :
    Calls Tryz.prog 76 #[.slice A n c, .int .i64 (k : Nat)] w fun e w' => e = .returned (.int .i64 ((k + ns.sum : Nat) : Int)) ∧ MM w' base (.slice A n c) sl ns (mmk k ns) ∧ InB sl w w' := by
  have hn9 : n ≤ 9223372036854775807 := by have := (own_len ho.outer).2; unfold maxLen at this; omega
  have hlen := ho.len
  have hns : n ≤ sl.length ∧ sl.length ≤ n := by omega
  replace hn := Aside0.mk hn
  have ho0 := Aside0.mk ho
  clear ho
  go_enter Tryz.func76, Tryz.ntmps76
  go_wp2
  go_loopg [1, 5] n (fun gd u i wr => ∃ (j : Nat) (cj : Nat → List Value), u = .int .i64 ((k + pre ns j : Nat) : Int) ∧ i = .int .i64 (j : Nat) ∧ j + gd = n ∧ Aside (MM wr base (.slice A n c) sl ns cj) ∧ Aside (∀ i, i < j → cj i = mmk k ns i) ∧ Aside (InB sl w wr))
  case atStart => exact ⟨0, _, rfl, rfl, by omega, ho0.out, (fun i hi => by omega), InB.refl _ _⟩
  case round =>
    obtain ⟨j, cj, rfl, rfl, hj, hO, hM, hm⟩ := hrel
    by_cases hlt : j < n
    · have hjs : j < sl.length := by omega
      have hjn : j < ns.length := by omega
      obtain ⟨Aj, c2, hej, hoj⟩ := hO.out.each j hjs hjn
      have hps := pre_succ hjn
      have hple := pre_le ns (j + 1)
      cases A with
      | none => have := own_none hO.out.outer; omega
      | some a =>
      obtain ⟨g, rfl, hg, _⟩ := own_addr hO.out.outer
      have hO1 := hO.out.outer
      rw [← hn.out] at hO1
      have hc0 := hO1.cellAt j (by omega)
      rw [List.getElem?_eq_getElem hjs, hej] at hc0
      obtain ⟨m, hme⟩ : ∃ m, m = ns[j]'hjn := ⟨_, rfl⟩
      have hMe := Aside0.mk hme
      rw [← hme] at hc0 hoj hej hps
      obtain ⟨K, hK⟩ : ∃ K, K = k + pre ns j := ⟨_, rfl⟩
      have hkb : K + m ≤ 1000000000 := by omega
      rw [← hK]
      have hKn := Aside0.mk (show k + pre ns (j + 1) = K + m by omega)
      have hKe := Aside0.mk hK
      have HEJ := Aside0.mk hej
      have HC := Aside0.mk (markIntS_calls Aj m c2 K base _ wr hoj hkb)
      clear hK hme hps hple hO1 hoj hej
      go_wp2_with fail
      refine (HC.out).mono ?_
      rintro e w1 ⟨rfl, hown1, hgr1⟩
      have HM1 := Aside0.mk (MM.put (cs' := fun i => if i = j then mmk k ns j else cj i) hO.out j hjs hjn (by rw [HEJ.out]; exact hgr1) ⟨Aj, c2, by rw [HEJ.out, hMe.out], by simp only [if_pos]; rw [mmk_at hjn, ← hMe.out, ← hKe.out]; exact hown1⟩ (fun i hi => by simp only [if_neg hi]))
      have HMJ := Aside0.mk (show ∀ i, i < j + 1 → (if i = j then mmk k ns j else cj i) = mmk k ns i from fun i hi => by
        by_cases e : i = j
        · subst e; simp only [if_pos]
        · simp only [if_neg e]; exact hM.out i (by omega))
      have HI1 := Aside0.mk (hm.out.grown (List.getElem_mem hjs) (by rw [HEJ.out]; exact hgr1))
      clear hown1 hgr1 hc0
      go_wp2
      go_roundg (gk - 1)
      case measure => omega
      case rel => exact ⟨j + 1, _, by rw [hKn.out]; rfl, by go_num, by omega, HM1.out, HMJ.out, HI1.out⟩
    · have hpe := Aside0.mk (show k + pre ns j = k + ns.sum by rw [pre, List.take_of_length_le (by omega)])
      have HM1 := Aside0.mk (show MM wr base (.slice A n c) sl ns (mmk k ns) from ⟨hO.out.outer, hO.out.len, fun i hi hi' => by rw [← hM.out i (by omega)]; exact hO.out.each i hi hi', hO.out.dk, hO.out.dd⟩)
      go_wp2
      go_ret
      exact ⟨by rw [← hpe.out]; rfl, HM1.out, hm.out⟩
theorem heldIntSS_calls (A : Option Addr) (n c k base : Nat) (sl : List Value) (ns : List Nat) (w : World) (hn : n = sl.length) (ho : MM w base (.slice A n c) sl ns (mmk k ns)) (hk2 : k + ns.sum ≤ 1000000000) :
    Calls Tryz.prog 78 #[.slice A n c, .int .i64 (k : Nat)] w fun e w' => e = .returned (.int .i64 ((k + ns.sum : Nat) : Int)) ∧ Drawn w w' := by
  have hn9 : n ≤ 9223372036854775807 := by have := (own_len ho.outer).2; unfold maxLen at this; omega
  have hlen := ho.len
  have hns : n ≤ sl.length ∧ sl.length ≤ n := by omega
  replace hn := Aside0.mk hn
  have ho0 := Aside0.mk ho
  clear ho
  go_enter Tryz.func78, Tryz.ntmps78
  go_wp2
  go_loopg [1, 5] n (fun gd u i wr => ∃ (j : Nat), u = .int .i64 ((k + pre ns j : Nat) : Int) ∧ i = .int .i64 (j : Nat) ∧ j + gd = n ∧ Drawn w wr)
  case atStart => exact ⟨0, rfl, rfl, by omega, Drawn.refl _⟩
  case round =>
    obtain ⟨j, rfl, rfl, hj, hd⟩ := hrel
    by_cases hlt : j < n
    · have hjs : j < sl.length := by omega
      have hjn : j < ns.length := by omega
      have hO := Aside0.mk (ho0.out.below hd.below)
      obtain ⟨Aj, c2, hej, hoj⟩ := hO.out.each j hjs hjn
      rw [mmk_at hjn] at hoj
      have hps := pre_succ hjn
      have hple := pre_le ns (j + 1)
      cases A with
      | none => have := own_none hO.out.outer; omega
      | some a =>
      obtain ⟨g, rfl, hg, _⟩ := own_addr hO.out.outer
      have hO1 := hO.out.outer
      rw [← hn.out] at hO1
      have hc0 := hO1.cellAt j (by omega)
      rw [List.getElem?_eq_getElem hjs, hej] at hc0
      obtain ⟨m, hme⟩ : ∃ m, m = ns[j]'hjn := ⟨_, rfl⟩
      rw [← hme] at hc0 hoj hps
      obtain ⟨K, hK⟩ : ∃ K, K = k + pre ns j := ⟨_, rfl⟩
      have hkb : K + m ≤ 1000000000 := by omega
      rw [← hK] at hoj
      rw [← hK]
      have hKn := Aside0.mk (show k + pre ns (j + 1) = K + m by omega)
      have hK0 : (0 : Int) ≤ ((K + m : Nat) : Int) := by omega
      have HC := Aside0.mk (heldIntS_calls Aj m c2 K base wr hoj hkb)
      clear hK hme hps hple hO1 hoj hej
      go_wp2_with fail
      refine (HC.out).mono ?_
      rintro e w1 ⟨rfl, hd1⟩
      clear hc0
      go_wp2
      go_roundg (gk - 1)
      case measure => omega
      case rel => exact ⟨j + 1, by rw [hKn.out]; rfl, by go_num, by omega, hd.trans hd1⟩
    · have hpe := Aside0.mk (show k + pre ns j = k + ns.sum by rw [pre, List.take_of_length_le (by omega)])
      go_wp2
      go_ret
      exact ⟨by rw [← hpe.out]; rfl, hd⟩
end Go.Proofs.YtpcklgkpjmmakaaGreatDoor
end
section
/- Append in a region that draws its order, and where the slice lies. No program here. -/
namespace Go.Proofs.YtpcklgkpjmmakaaGreatDoor
open Go.RowKit
set_option linter.unusedVariables false
section
variable {P : Program} {w : World}
/-- As step_app_at; and where it lies. -/
theorem step_app_in {ops : Array Oper} {o : Oper} {a : Act} {K : Act → World → Prop} {Q : Exit → Act → World → Prop} {E : Prop} (hgd : o.guard = none) (s x : Operand) (t : TypeId)
    (ho : o.op = .call { callee := .builtin .append, args := #[s, x], argTypes := #[t, t] })
    (base : Nat) (e : TypeId) (i : TypeInfo) (z : Value) (size bytes : Nat) (ht : P.underlying t = some (.slice e)) (hi : P.info? e = some i) (hz : i.zero = some z)
    (hsize : i.size = size) (hby : i.bytes = bytes) (hzs : z.cells.size = size) (hsz : 0 < size)
    (v : Value) (n : Nat) (xs : List Value) (hs : a.eval s = v) (hown : w.ownsRow base e size v n xs)
    (ad : Addr) (m c : Nat) (news : List Value) (hx : a.eval x = .slice (some ad) m c) (hl : news.length = m * size) (hnews : ∀ j u, news[j]? = some u → w.cell? (ad.add j) = some u) (h1 : ∀ u ∈ news, u.oneCell' = true)
    (h63 : n + m ≤ maxLen) (hbytes : (n + m) * bytes ≤ 140737488355328) (hbase : base ≤ w.heap.size)
    (h : ∀ v' w', w'.ownsRow base e size v' (n + m) (xs ++ news) → w.grownBy w' v.ownBlock → (v'.ownBlock = v.ownBlock ∨ v'.ownBlock = some w.heap.size) → K (a.put o.dst v') w') :
    if Region.wanted o (yielded ops a.tmps) = true then Oper.wp P o a w K Q else E := by
  have hw : Region.wanted o (yielded ops a.tmps) = true := by simp [Region.wanted, hgd]
  rw [if_pos hw]
  obtain ⟨v', w', hr, h2, h3, _, h4⟩ := run_append_own_at (P := P) w base t o.type e i z size bytes ht hi hz hsize hby hzs hsz v n xs hown ad m c news hl hnews h1 h63 hbytes hbase
  unfold Oper.wp execOp
  simp only [ho, resolve, invoke, builtin, Sem.run_bind, Sem.run_pure, Result.andThen_ok, List.map_toArray, List.map_cons, List.map_nil, hs, hx, hr]
  exact h v' w' h2 h3 h4
end
end Go.Proofs.YtpcklgkpjmmakaaGreatDoor
end
section
/- What ProofOf makes: a row of numbers, and a row of rows, each in a block of its own. -/
namespace Go.Proofs.YtpcklgkpjmmakaaGreatDoor
open Go.RowKit
set_option linter.unusedVariables false
set_option linter.unusedSimpArgs false
set_option maxRecDepth 20000
set_option maxHeartbeats 1000000
def ints (l : List Int) : List Value := l.map (Value.int .i64)
def kidC (kids : List (List Int)) (i : Nat) : List Value := ints (kids[i]?.getD [])
structure PfM (w : World) (base : Nat) (vo vk : Value) (own : List Int) (kids : List (List Int)) (sl : List Value) : Prop where
  own : w.ownsRow base 3 1 vo own.length (ints own)
  mm : MM w base vk sl (kids.map List.length) (kidC kids)
  d1 : ∀ k, vo.ownBlock = some k → vk.ownBlock ≠ some k
  d2 : ∀ v ∈ sl, ∀ k, v.ownBlock = some k → vo.ownBlock ≠ some k
theorem own_mono {w : World} {base b : Nat} {e : TypeId} {size : Nat} {v : Value} {n : Nat} {cells : List Value} (h : w.ownsRow base e size v n cells) (hb : b ≤ base) : w.ownsRow b e size v n cells := by
  obtain ⟨h1, h2⟩ := h
  refine ⟨h1, ?_⟩
  rcases h2 with h2 | ⟨g, cap, cur, hv, hg, h3⟩
  · exact .inl h2
  · exact .inr ⟨g, cap, cur, hv, Nat.le_trans hb hg, h3⟩
theorem MM.lt {w : World} {base : Nat} {vk : Value} {sl : List Value} {ns : List Nat} {cs : Nat → List Value} (h : MM w base vk sl ns cs) {v : Value} (hv : v ∈ sl) {k : Nat} (hk : v.ownBlock = some k) : base ≤ k ∧ k < w.heap.size := by
  obtain ⟨i, hi, rfl⟩ := List.getElem_of_mem hv
  obtain ⟨A, c, e, ho⟩ := h.each i hi (by rw [h.len]; exact hi)
  exact ho.lt k (by rw [← e]; exact hk)
theorem MM.kept {w w1 : World} {base : Nat} {vk : Value} {sl : List Value} {ns : List Nat} {cs : Nat → List Value} (h : MM w base vk sl ns cs)
    (hs : ∀ k, (vk.ownBlock = some k ∨ ∃ v ∈ sl, v.ownBlock = some k) → k < w.heap.size → w1.heap[k]? = w.heap[k]?) : MM w1 base vk sl ns cs :=
  ⟨own_kept h.outer (fun k hk hlt => hs k (.inl hk) hlt), h.len, fun i hi hi' => by
    obtain ⟨A, c, e, ho⟩ := h.each i hi hi'
    exact ⟨A, c, e, own_kept ho (fun k hk hlt => hs k (.inr ⟨_, List.getElem_mem hi, by rw [e]; exact hk⟩) hlt)⟩, h.dk, h.dd⟩
theorem PfM.same {w w1 : World} {base : Nat} {vo vk : Value} {own : List Int} {kids : List (List Int)} {sl : List Value} (h : PfM w base vo vk own kids sl) (hs : ∀ k, base ≤ k → k < w.heap.size → w1.heap[k]? = w.heap[k]?) : PfM w1 base vo vk own kids sl :=
  ⟨own_kept h.own (fun k hk hlt => hs k (h.own.lt k hk).1 hlt), h.mm.same hs, h.d1, h.d2⟩
theorem PfM.addOwn {w w1 : World} {base : Nat} {vo vo' vk : Value} {own : List Int} {kids : List (List Int)} {sl : List Value} {x : Int} (h : PfM w base vo vk own kids sl) (ho : w1.ownsRow base 3 1 vo' (own.length + 1) (ints own ++ [.int .i64 x]))
    (hg : w.grownBy w1 vo.ownBlock) (hat : vo'.ownBlock = vo.ownBlock ∨ vo'.ownBlock = some w.heap.size) : PfM w1 base vo' vk (own ++ [x]) kids sl := by
  refine ⟨?_, h.mm.kept (fun k hk hlt => hg.block k hlt (fun e => ?_)), fun k hk hk2 => ?_, fun v hv k hk hk2 => ?_⟩
  · rw [List.length_append, List.length_singleton, ints, List.map_append]; exact ho
  · rcases hk with hk | ⟨v, hv, hk⟩
    · exact h.d1 k e.symm hk
    · exact h.d2 v hv k hk e.symm
  · rcases hat with e | e
    · rw [e] at hk; exact h.d1 k hk hk2
    · rw [e] at hk; injection hk with hk; subst hk; exact absurd (h.mm.outer.lt _ hk2).2 (by omega)
  · rcases hat with e | e
    · rw [e] at hk2; exact h.d2 v hv k hk hk2
    · rw [e] at hk2; injection hk2 with hk2; subst hk2; exact absurd (h.mm.lt hv hk).2 (by omega)
/-- A slice that lies in none of these blocks. -/
def Dis (v vo vk : Value) (sl : List Value) : Prop := ∀ k, v.ownBlock = some k → vo.ownBlock ≠ some k ∧ vk.ownBlock ≠ some k ∧ ∀ s ∈ sl, s.ownBlock ≠ some k
theorem PfM.dis {w0 w : World} {base size n : Nat} {e : TypeId} {cells : List Value} {vo vk v : Value} {own : List Int} {kids : List (List Int)} {sl : List Value} (h : PfM w0 base vo vk own kids sl) (hv : w.ownsRow w0.heap.size e size v n cells) : Dis v vo vk sl := fun k hk => by
  have h1 := (hv.lt k hk).1
  refine ⟨fun e => ?_, fun e => ?_, fun s hs e => ?_⟩
  · have := (h.own.lt k e).2; omega
  · have := (h.mm.outer.lt k e).2; omega
  · have := (h.mm.lt hs e).2; omega
theorem Dis.addOwn {v vo vo' vk : Value} {sl : List Value} {m : Nat} (h : Dis v vo vk sl) (hv : ∀ k, v.ownBlock = some k → k < m) (hat : vo'.ownBlock = vo.ownBlock ∨ vo'.ownBlock = some m) : Dis v vo' vk sl := fun k hk => by
  refine ⟨fun e => ?_, (h k hk).2⟩
  rcases hat with e' | e'
  · rw [e'] at e; exact (h k hk).1 e
  · rw [e'] at e; injection e with e; have := hv k hk; omega
theorem PfM.addKid {w w1 : World} {base : Nat} {vo vk vk' : Value} {own : List Int} {kids : List (List Int)} {sl : List Value} {xs : List Int} {A : Option Addr} {c : Nat} (h : PfM w base vo vk own kids sl)
    (hv : w.ownsRow base 3 1 (.slice A xs.length c) xs.length (ints xs)) (hd : Dis (.slice A xs.length c) vo vk sl) (ho : w1.ownsRow base 29 1 vk' (sl.length + 1) (sl ++ [.slice A xs.length c]))
    (hg : w.grownBy w1 vk.ownBlock) (hat : vk'.ownBlock = vk.ownBlock ∨ vk'.ownBlock = some w.heap.size) : PfM w1 base vo vk' own (kids ++ [xs]) (sl ++ [.slice A xs.length c]) := by
  have hlen : kids.length = sl.length := by have := h.mm.len; rw [List.length_map] at this; exact this
  have hvl : ∀ k, (Value.slice A xs.length c).ownBlock = some k → k < w.heap.size := fun k hk => (hv.lt k hk).2
  have hsl : ∀ v ∈ sl, ∀ k, v.ownBlock = some k → k < w.heap.size := fun v hv k hk => (h.mm.lt hv hk).2
  have hvo : ∀ k, vo.ownBlock = some k → k < w.heap.size := fun k hk => (h.own.lt k hk).2
  have hkp : ∀ k, k < w.heap.size → vk.ownBlock ≠ some k → w1.heap[k]? = w.heap[k]? := fun k hk hn => hg.block k hk (fun e => hn e.symm)
  have hvk' : ∀ k, k < w.heap.size → vk.ownBlock ≠ some k → vk'.ownBlock ≠ some k := fun k hk hn e => by
    rcases hat with e' | e'
    · rw [e'] at e; exact hn e
    · rw [e'] at e; injection e with e; omega
  refine ⟨own_kept h.own (fun k hk hlt => hkp k hlt (h.d1 k hk)), ⟨?_, ?_, ?_, ?_, ?_⟩, ?_, ?_⟩
  · rw [List.length_append, List.length_singleton]; exact ho
  · simp [hlen]
  · intro i hi hi'
    rw [List.length_append, List.length_singleton] at hi
    by_cases e : i < sl.length
    · obtain ⟨B, d, he, hoi⟩ := h.mm.each i e (by rw [List.length_map, hlen]; exact e)
      have hk : i < kids.length := by omega
      simp only [List.map_append, List.getElem_append_left e, List.getElem_append_left (show i < (kids.map List.length).length by rw [List.length_map]; exact hk)]
      refine ⟨B, d, he, ?_⟩
      have e2 : kidC (kids ++ [xs]) i = kidC kids i := by rw [kidC, kidC, List.getElem?_append_left hk]
      rw [e2]
      exact own_kept hoi (fun k hk hlt => hkp k hlt (h.mm.dk i e k (by rw [he]; exact hk)))
    · obtain rfl : i = sl.length := by omega
      refine ⟨A, c, ?_, ?_⟩
      · simp [hlen]
      · have e2 : kidC (kids ++ [xs]) sl.length = ints xs := by rw [kidC, ← hlen]; simp
        rw [e2]
        have e3 : (List.map List.length (kids ++ [xs]))[sl.length]'hi' = xs.length := by simp [hlen]
        rw [e3]
        exact own_kept hv (fun k hk hlt => hkp k hlt (hd k hk).2.1)
  · intro i hi k hk
    rw [List.length_append, List.length_singleton] at hi
    by_cases e : i < sl.length
    · rw [List.getElem_append_left e] at hk
      exact hvk' k (hsl _ (List.getElem_mem e) k hk) (h.mm.dk i e k hk)
    · obtain rfl : i = sl.length := by omega
      simp at hk
      exact hvk' k (hvl k hk) (hd k hk).2.1
  · intro i j hi hj hne k hk hk2
    rw [List.length_append, List.length_singleton] at hi hj
    by_cases e : i < sl.length
    · rw [List.getElem_append_left e] at hk
      by_cases e2 : j < sl.length
      · rw [List.getElem_append_left e2] at hk2
        exact h.mm.dd i j e e2 hne k hk hk2
      · obtain rfl : j = sl.length := by omega
        simp at hk2
        exact (hd k hk2).2.2 _ (List.getElem_mem e) hk
    · obtain rfl : i = sl.length := by omega
      simp at hk
      by_cases e2 : j < sl.length
      · rw [List.getElem_append_left e2] at hk2
        exact (hd k hk).2.2 _ (List.getElem_mem e2) hk2
      · omega
  · intro k hk
    exact hvk' k (hvo k hk) (h.d1 k hk)
  · intro v hvm k hk hk2
    rw [List.mem_append, List.mem_singleton] at hvm
    rcases hvm with hvm | rfl
    · exact h.d2 v hvm k hk hk2
    · exact (hd k hk).1 hk2
/-- It reads as two rows. -/
theorem ints_rowB {w : World} {base : Nat} {A : Option Addr} {c : Nat} {xs : List Int} (h : w.ownsRow base 3 1 (.slice A xs.length c) xs.length (ints xs)) : xs.length ≤ c ∧ Row (Kd.int .i64) w (fun k => base ≤ k) A xs := by
  obtain ⟨A', c', he, hl, hr⟩ := Own.row (d := Kd.int .i64) (xs := xs) (ok := fun _ => False) (show Own (Kd.int .i64) 3 w base (fun _ => False) (.slice A xs.length c) xs from ⟨ints xs, h, by simp [ints, Kd.int, Kd.one], fun i hi => by
    show ((ints xs).drop (i * 1)).take 1 = [.int .i64 (xs[i]'hi)]
    rw [Nat.mul_one, List.drop_eq_getElem_cons (by rw [ints, List.length_map]; exact hi)]
    simp [ints]⟩) (ok' := fun k => base ≤ k) (fun _ hk => hk.elim) (fun k hk => (h.lt k hk).1)
  injection he with h1 _ h3
  subst h1 h3
  exact ⟨hl, hr⟩
theorem own_shape {w : World} {base size : Nat} {e : TypeId} {v : Value} {n : Nat} {cells : List Value} (h : w.ownsRow base e size v n cells) : ∃ A c, v = .slice A n c ∧ n ≤ c := by
  rcases h.2 with ⟨h, h0⟩ | ⟨g, cap, cur, h, _, _, h1, _⟩
  · exact ⟨none, 0, by rw [h, h0], by omega⟩
  · exact ⟨_, _, h, h1⟩
theorem PfM.rows {w : World} {base : Nat} {vo vk : Value} {own : List Int} {kids : List (List Int)} {sl : List Value} (h : PfM w base vo vk own kids sl) :
    ∃ A c B d, vo = .slice A own.length c ∧ vk = .slice B kids.length d ∧ Row (Kd.int .i64) w (fun k => base ≤ k) A own ∧ Row (Kd.slice (Kd.int .i64)) w (fun k => base ≤ k) B kids := by
  obtain ⟨A, c, rfl, _⟩ := own_shape h.own
  obtain ⟨B, d, e, _⟩ := own_shape h.mm.outer
  have hlen : sl.length = kids.length := by have := h.mm.len; rw [List.length_map] at this; exact this.symm
  rw [hlen] at e
  subst e
  refine ⟨A, c, B, d, rfl, rfl, (ints_rowB h.own).2, ?_⟩
  have ho := h.mm.outer
  rw [hlen] at ho
  obtain ⟨A', c', he, hl, hr⟩ := Own.row (d := Kd.slice (Kd.int .i64)) (xs := kids) (ok := fun k => base ≤ k) (show Own (Kd.slice (Kd.int .i64)) 29 w base (fun k => base ≤ k) (.slice B kids.length d) kids from ⟨sl, ho, by simp [hlen, Kd.slice], fun i hi => by
    obtain ⟨Ai, ci, hei, hoi⟩ := h.mm.each i (by omega) (by rw [List.length_map]; exact hi)
    show ∃ A c, (sl.drop (i * 1)).take 1 = [.slice A (kids[i]'hi).length c] ∧ _
    have e1 : (kids.map List.length)[i]'(by rw [List.length_map]; exact hi) = (kids[i]'hi).length := by rw [List.getElem_map]
    rw [e1] at hei hoi
    have e2 : kidC kids i = ints (kids[i]'hi) := by rw [kidC, List.getElem?_eq_getElem hi]; rfl
    rw [e2] at hoi
    obtain ⟨hl, hr⟩ := ints_rowB hoi
    refine ⟨Ai, ci, ?_, hl, hr⟩
    rw [Nat.mul_one, List.drop_eq_getElem_cons (by omega), hei]
    rfl⟩) (ok' := fun k => base ≤ k) (fun _ hk => hk) (fun k hk => (ho.lt k hk).1)
  injection he with h1 _ h3
  subst h1 h3
  exact hr
/-! ### ProofOf's state -/
structure PS (w W : World) (ok : Nat → Prop) (base g8 g9 : Nat) (vo vk : Value) (own : List Int) (kids : List (List Int)) (sl : List Value) (x : Nd) (t : Sh) : Prop where
  xb : XB w W ok 28 g9 x t
  res : W.heap[w.heap.size + 1]? = some (.cells #[.slice none 0 0, .slice none 0 0] 35 (0, 0))
  out : W.heap[g8]? = some (.cells #[vo, vk] 35 (0, 0))
  pm : PfM W base vo vk own kids sl
  l8 : w.heap.size + 1 < g8 ∧ g8 < base
  l9 : w.heap.size ≤ g9 ∧ g9 < base ∧ g9 ≠ g8 ∧ g9 ≠ w.heap.size + 1
  lb : base ≤ W.heap.size
section
variable {w W W1 W2 W3 Y : World} {ok : Nat → Prop} {base g8 g9 : Nat} {vo vo' vk vk' : Value} {own : List Int} {kids : List (List Int)} {sl : List Value} {x y : Nd} {t s : Sh} {h : Int} {xs : List Int}
theorem PS.next (p : PS w W ok base g8 g9 vo vk own kids sl x t) (hb : Below W.heap.size W W1) : PS w W1 ok base g8 g9 vo vk own kids sl x t :=
  ⟨p.xb.next hb, (hb.block _ (Array.getElem?_eq_some_iff.1 p.res).1).trans p.res, (hb.block _ (Array.getElem?_eq_some_iff.1 p.out).1).trans p.out, p.pm.same (fun k _ hk => hb.block k hk), p.l8, p.l9, Nat.le_trans p.lb hb.size⟩
theorem PS.moved {v : Value} (p : PS w W ok base g8 g9 vo vk own kids sl x t) (hg : W.grownBy W3 v.ownBlock) (hv : ∀ k, v.ownBlock = some k → base ≤ k) :
    XB w W3 ok 28 g9 x t ∧ W3.heap[w.heap.size + 1]? = some (.cells #[.slice none 0 0, .slice none 0 0] 35 (0, 0)) ∧ W3.heap[g8]? = some (.cells #[vo, vk] 35 (0, 0)) := by
  have hs : ∀ k, k < W.heap.size → k < base → W3.heap[k]? = W.heap[k]? := fun k hk hk2 => hg.block k hk (fun e => by have := hv k e.symm; omega)
  have l8 := p.l8
  have l9 := p.l9
  have lb := p.lb
  refine ⟨⟨below_grown p.xb.below hg (fun k hk => by have := hv k hk; omega), p.xb.ge, (hs _ (by omega) (by omega)).trans p.xb.box, p.xb.node⟩, (hs _ (by omega) (by omega)).trans p.res, (hs _ (by omega) (by omega)).trans p.out⟩
theorem PS.addOwn (p : PS w W ok base g8 g9 vo vk own kids sl x t) (ho : W3.ownsRow base 3 1 vo' (own.length + 1) (ints own ++ [.int .i64 h])) (hg : W.grownBy W3 vo.ownBlock) (hat : vo'.ownBlock = vo.ownBlock ∨ vo'.ownBlock = some W.heap.size)
    (hY : Y = W3.setCell ⟨g8, 0, none⟩ vo') : PS w Y ok base g8 g9 vo' vk (own ++ [h]) kids sl x t := by
  obtain ⟨h1, h2, h3⟩ := p.moved hg (fun k hk => (p.pm.own.lt k hk).1)
  have hp := p.pm.addOwn ho hg hat
  have l8 := p.l8
  have l9 := p.l9
  have hne : ∀ k, k ≠ g8 → Y.heap[k]? = W3.heap[k]? := fun k hk => by rw [hY]; exact Below.heap_setCell _ _ _ _ hk
  have hsz : Y.heap.size = W3.heap.size := by rw [hY]; simp [World.setCell]
  refine ⟨⟨by rw [hY]; exact below_setNew h1.below (by omega), h1.ge, (hne _ (by omega)).trans h1.box, h1.node⟩, (hne _ (by omega)).trans h2, by rw [hY]; exact heap_setCell_same W3 g8 0 _ _ _ h3, hp.same (fun k hk _ => hne k (by omega)), l8, l9, by rw [hsz]; exact Nat.le_trans p.lb hg.size⟩
theorem PS.addKid {A : Option Addr} {c : Nat} (p : PS w W ok base g8 g9 vo vk own kids sl x t) (hv : W.ownsRow base 3 1 (.slice A xs.length c) xs.length (ints xs)) (hd : Dis (.slice A xs.length c) vo vk sl)
    (ho : W3.ownsRow base 29 1 vk' (sl.length + 1) (sl ++ [.slice A xs.length c])) (hg : W.grownBy W3 vk.ownBlock) (hat : vk'.ownBlock = vk.ownBlock ∨ vk'.ownBlock = some W.heap.size)
    (hY : Y = W3.setCell ⟨g8, 1, none⟩ vk') : PS w Y ok base g8 g9 vo vk' own (kids ++ [xs]) (sl ++ [.slice A xs.length c]) x t := by
  obtain ⟨h1, h2, h3⟩ := p.moved hg (fun k hk => (p.pm.mm.outer.lt k hk).1)
  have hp := p.pm.addKid hv hd ho hg hat
  have l8 := p.l8
  have l9 := p.l9
  have hne : ∀ k, k ≠ g8 → Y.heap[k]? = W3.heap[k]? := fun k hk => by rw [hY]; exact Below.heap_setCell _ _ _ _ hk
  have hsz : Y.heap.size = W3.heap.size := by rw [hY]; simp [World.setCell]
  refine ⟨⟨by rw [hY]; exact below_setNew h1.below (by omega), h1.ge, (hne _ (by omega)).trans h1.box, h1.node⟩, (hne _ (by omega)).trans h2, by rw [hY]; exact heap_setCell_same W3 g8 1 _ _ _ h3, hp.same (fun k hk _ => hne k (by omega)), l8, l9, by rw [hsz]; exact Nat.le_trans p.lb hg.size⟩
theorem PS.put (p : PS w W ok base g8 g9 vo vk own kids sl x t) (hy : NodeIs w ok y s) (hY : Y = W.setCells g9 0 (y.cells s)) : PS w Y ok base g8 g9 vo vk own kids sl y s := by
  obtain ⟨h1, h2, h3⟩ := p.xb.put hy hY
  have l8 := p.l8
  have l9 := p.l9
  exact ⟨h1, (h3 _ (by omega)).trans p.res, (h3 _ (by omega)).trans p.out, p.pm.same (fun k hk _ => h3 k (by omega)), l8, l9, by rw [h2]; exact p.lb⟩
end
end Go.Proofs.YtpcklgkpjmmakaaGreatDoor
end
