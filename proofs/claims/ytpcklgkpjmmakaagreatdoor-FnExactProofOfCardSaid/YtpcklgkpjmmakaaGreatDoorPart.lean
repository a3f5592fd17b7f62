/- The program's noTwoTexts, kidsOk, partOk. -/
import Derived.Test.YtpcklgkpjmmakaaGreatDoorLeaf
import Derived.Test.YtpcklgkpjmmakaaGreatDoorSz
namespace Go.Proofs.YtpcklgkpjmmakaaGreatDoor
open Go.RowKit Go.Lib
set_option linter.unusedVariables false
set_option linter.unusedSimpArgs false
set_option maxHeartbeats 4000000
set_option maxRecDepth 20000
/-- Texts of a node of little weight are short. -/
theorem small {n : Nd} (h : wt n ≤ 1048576) : (n.pre.size ≤ 1048576 ∧ n.loc.size ≤ 1048576 ∧ n.uri.size ≤ 1048576 ∧ n.text.size ≤ 1048576) ∧ (∀ d ∈ n.decls, d.pre.size ≤ 1048576 ∧ d.uri.size ≤ 1048576) ∧
    (∀ a ∈ n.attrs, a.pre.size ≤ 1048576 ∧ a.loc.size ≤ 1048576 ∧ a.uri.size ≤ 1048576 ∧ a.val.size ≤ 1048576) ∧ (∀ k ∈ n.kids, wt k ≤ 1048576) ∧ n.decls.length ≤ 1048576 ∧ n.attrs.length ≤ 1048576 ∧ n.kids.length ≤ 1048576 := by
  rw [wt_eq] at h
  refine ⟨⟨by omega, by omega, by omega, by omega⟩, fun d hd => ?_, fun a ha => ?_, fun k hk => ?_, by omega, by omega, by omega⟩
  · have := sumOf_mem Dcl.wt n.decls d hd
    have e : d.wt = d.pre.size + d.uri.size := rfl
    omega
  · have := sumOf_mem Atr.wt n.attrs a ha
    have e : a.wt = a.pre.size + a.loc.size + a.uri.size + a.val.size := rfl
    omega
  · have := sumOf_mem wt n.kids k hk
    rw [← wtL_eq] at this
    omega
theorem chain_const {α : Type} (lt : α → α → Bool) (xs : List α) (j : Nat) (h : j < xs.length) (h0 : ∀ m (hm : m + 1 < xs.length), m + 1 = j → lt (xs[m]'(by omega)) (xs[m + 1]'hm) = true) :
    chain (fun _ => true) lt (prevOf xs j) (xs.drop j) = chain (fun _ => true) lt (prevOf xs (j + 1)) (xs.drop (j + 1)) := by
  cases j with
  | zero => rw [show prevOf xs 0 = none from rfl, List.drop_zero, chain_zero h, Bool.true_and]
  | succ m => rw [chain_succ h, h0 m h rfl, Bool.true_and, Bool.true_and]
theorem noTwoTexts_calls {ok : Nat → Prop} (A : Option Addr) (c : Nat) (xs : List Nd) (w : World) (hr : Row Kd.node w ok A xs) :
    Calls Tryz.prog 136 #[.slice A xs.length c] w fun e w' => e = .returned (.bool (chain (fun _ => true) noTwo none xs)) ∧ Below w.heap.size w w' := by
  have hmax := hr.max
  obtain ⟨R, hR⟩ : ∃ R, R = chain (fun _ => true) noTwo none xs := ⟨_, rfl⟩
  rw [← hR]
  go_enter Tryz.func136, Tryz.ntmps136
  go_wp2
  go_loopg [7] xs.length (fun k i wr => ∃ (j : Nat), i = .int .i64 j ∧ j + k = xs.length ∧ Aside (R = chain (fun _ => true) noTwo (prevOf xs j) (xs.drop j)) ∧ Below w.heap.size w wr)
  case atStart => exact ⟨0, rfl, by omega, hR, Below.refl _ _⟩
  case round =>
    obtain ⟨j, rfl, hk, ha, hb⟩ := hrel
    clear hR
    by_cases hlt : j < xs.length
    · obtain ⟨b, o, s', rfl, hbl, hs', d0, d1, d2, d3, d4, d5, d6, d7⟩ := node_at (hr.below hb) j hlt
      clear hs'
      by_cases hj : j = 0
      · subst hj
        have hnx := Aside0.mk (ha.out.trans (chain_const noTwo xs 0 hlt (fun m hm h => by omega)))
        rw [Nat.zero_mul, Nat.add_zero] at d0 d1 d2 d3 d4 d5 d6 d7
        clear ha
        go_wp2
        go_roundg (gk - 1)
        case measure => omega
        case rel => exact ⟨1, by go_num, by omega, hnx.out, below_alloc hb _⟩
      · obtain ⟨m, rfl⟩ : ∃ m, j = m + 1 := ⟨j - 1, by omega⟩
        clear hj
        obtain ⟨b', o', s'', hA, hbl', hs'', e0, _⟩ := node_at (hr.below hb) m (by omega)
        injection hA with hA
        injection hA with x1 x2
        subst x1 x2
        clear hs''
        by_cases q1 : (xs[m + 1]'hlt).kind = 2
        · by_cases q2 : (xs[m]'(by omega)).kind = 2
          · have hfin := Aside0.mk (show R = false by rw [ha.out, chain_succ hlt, noTwo, q1, q2]; rfl)
            rw [q1] at d0
            rw [q2] at e0
            clear ha q1 q2
            have e0' : (wr.alloc (.cells #[.int .i64 2, .string (xs[m + 1]'hlt).pre, .string (xs[m + 1]'hlt).loc, .string (xs[m + 1]'hlt).uri, .slice s'.Ad (xs[m + 1]'hlt).decls.length s'.cd, .slice s'.Aa (xs[m + 1]'hlt).attrs.length s'.ca, .slice s'.Ak (xs[m + 1]'hlt).kids.length s'.ck, .string (xs[m + 1]'hlt).text] 28)).cell? ⟨b, o + m * 8, none⟩ = some (.int .i64 2) := ((bcell (below_alloc (Below.refl _ _) _)).1 _ _ hbl').trans e0
            go_wp2
            go_ret
            exact ⟨by rw [hfin.out]; rfl, below_alloc hb _⟩
          · have hnx := Aside0.mk (ha.out.trans (chain_const noTwo xs (m + 1) hlt (fun i hi h => by
              obtain rfl : i = m := by omega
              unfold noTwo
              rw [show ((xs[i]'(by omega)).kind == 2) = false by simpa using q2]; rfl)))
            clear ha
            go_wp2
            go_roundg (gk - 1)
            case measure => omega
            case rel => exact ⟨m + 2, by go_num, by omega, hnx.out, below_alloc hb _⟩
        · have hnx := Aside0.mk (ha.out.trans (chain_const noTwo xs (m + 1) hlt (fun i hi h => by
            obtain rfl : i = m := by omega
            unfold noTwo
            rw [show ((xs[i + 1]'hi).kind == 2) = false by simpa using q1, Bool.and_false]; rfl)))
          clear ha
          go_wp2
          go_roundg (gk - 1)
          case measure => omega
          case rel => exact ⟨m + 2, by go_num, by omega, hnx.out, below_alloc hb _⟩
    · have hfin := Aside0.mk (show R = true by rw [ha.out, chain_end (by omega)])
      clear ha
      go_wp2
      go_ret
      exact ⟨by rw [hfin.out]; rfl, hb⟩
theorem IndexFunc_node {ok : Nat → Prop} (p : Nd → Bool) (g : Nat) (lb : Array Value) (eg : ∀ args w, (callFunc g args).run Tryz.prog w = .ok (.enter g args) w) (A : Option Addr) (xs : List Nd) (c : Nat) (w : World)
    (h : Row Kd.node w ok A xs) (hp : ∀ W x s, x ∈ xs → NodeIs W ok x s → Below w.heap.size w W → Calls Tryz.prog g (#[.agg #[.int .i64 x.kind, .string x.pre, .string x.loc, .string x.uri, .slice s.Ad x.decls.length s.cd, .slice s.Aa x.attrs.length s.ca, .slice s.Ak x.kids.length s.ck, .string x.text]] ++ lb) W fun e w' => e = .returned (.bool (p x)) ∧ Below W.heap.size W w') :
    Calls Tryz.prog 141 #[.slice A xs.length c, .func (.func g) #[] lb] w fun e w' => e = .returned (.int .i64 (idxB p xs)) ∧ Below w.heap.size w w' := by
  have hm := h.max
  go_enter Tryz.func141, Tryz.ntmps141
  go_wp2
  go_loopg [5, 8] xs.length (fun k _ i wr => ∃ (j : Nat), i = .int .i64 j ∧ j + k = xs.length ∧ Aside (∀ y ∈ xs.take j, p y = false) ∧ Below w.heap.size w wr)
  case atStart => exact ⟨0, rfl, by omega, (fun y hy => by simp at hy), Below.refl _ _⟩
  case round =>
    obtain ⟨j, rfl, hk, ha, hb⟩ := hrel
    by_cases hlt : j < xs.length
    · obtain ⟨b, o, s', rfl, hbl, hs', d0, d1, d2, d3, d4, d5, d6, d7⟩ := node_at (h.below hb) j hlt
      have hcall := hp wr xs[j] s' (List.getElem_mem hlt) hs' hb
      clear h hp hs'
      cases hq : p xs[j] with
      | true =>
        have hfin := Aside0.mk (idxB_hit p xs j hlt ha.out hq)
        rw [hq] at hcall
        clear hq
        go_wp2_with (go_at_fn g; refine hcall.mono ?_; rintro e w' ⟨rfl, hb'⟩)
        go_ret
        exact ⟨by rw [hfin.out]; rfl, below_then hb hb'⟩
      | false =>
        have hfin := Aside0.mk (take_miss hlt ha.out hq)
        rw [hq] at hcall
        clear hq
        go_wp2_with (go_at_fn g; refine hcall.mono ?_; rintro e w' ⟨rfl, hb'⟩)
        go_roundg (gk - 1)
        case measure => omega
        case rel => exact ⟨j + 1, by go_num, by omega, hfin.out, below_then hb hb'⟩
    · obtain rfl : j = xs.length := by omega
      have hfin := Aside0.mk (idxB_miss p xs (by have := ha.out; rwa [List.take_length] at this))
      clear ha
      go_wp2
      go_ret
      exact ⟨by rw [hfin.out]; rfl, hb⟩
theorem ContainsFunc_node {ok : Nat → Prop} (p : Nd → Bool) (g : Nat) (lb : Array Value) (eg : ∀ args w, (callFunc g args).run Tryz.prog w = .ok (.enter g args) w) (A : Option Addr) (xs : List Nd) (c : Nat) (w : World)
    (h : Row Kd.node w ok A xs) (hp : ∀ W x s, x ∈ xs → NodeIs W ok x s → Below w.heap.size w W → Calls Tryz.prog g (#[.agg #[.int .i64 x.kind, .string x.pre, .string x.loc, .string x.uri, .slice s.Ad x.decls.length s.cd, .slice s.Aa x.attrs.length s.ca, .slice s.Ak x.kids.length s.ck, .string x.text]] ++ lb) W fun e w' => e = .returned (.bool (p x)) ∧ Below W.heap.size W w') :
    Calls Tryz.prog 121 #[.slice A xs.length c, .func (.func g) #[] lb] w fun e w' => e = .returned (.bool (xs.any p)) ∧ Below w.heap.size w w' := by
  rw [← idxB_any]
  go_enter Tryz.func121, Tryz.ntmps121
  go_wp2_with (go_at_call 141; refine (IndexFunc_node p g lb eg _ _ _ _ h hp).mono ?_; rintro e w1 ⟨rfl, hb⟩)
  go_ret
  exact ⟨rfl, hb⟩
end Go.Proofs.YtpcklgkpjmmakaaGreatDoor
