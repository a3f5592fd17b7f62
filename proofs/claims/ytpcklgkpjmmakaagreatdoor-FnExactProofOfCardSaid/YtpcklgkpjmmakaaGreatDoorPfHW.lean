/- Joined: PfH, PfW. -/
import Derived.Test.YtpcklgkpjmmakaaGreatDoorPfI
import Derived.Test.YtpcklgkpjmmakaaGreatDoorPfSS
import Derived.Test.YtpcklgkpjmmakaaGreatDoorMkT
import Derived.Test.YtpcklgkpjmmakaaGreatDoorOpn
import Derived.Test.YtpcklgkpjmmakaaGreatDoorEq
section
/- The laws' marks of Proofs. -/
namespace Go.Proofs.YtpcklgkpjmmakaaGreatDoor
open Go.RowKit Go.Lib
set_option linter.unusedVariables false
set_option linter.unusedSimpArgs false
set_option maxHeartbeats 4000000
set_option maxRecDepth 100000
theorem PfOut.is {o : Option (List Int × List (List Int))} {w w' : World} {e : Ending} (h : PfOut o w e w') : ∃ (A : Option Addr) (c : Nat) (B : Option Addr) (d base : Nat) (sl : List Value),
    e = .returned (.tuple #[.agg #[.slice A (pfO o).length c, .slice B (pfK o).length d], .bool o.isSome]) ∧ w.heap.size ≤ base ∧ PfM w' base (.slice A (pfO o).length c) (.slice B (pfK o).length d) (pfO o) (pfK o) sl ∧ Below w.heap.size w w' := by
  obtain ⟨base, vo, vk, sl, h1, h2, h3, h4⟩ := h
  obtain ⟨A, c, B, d, rfl, rfl, _, _⟩ := h3.rows
  exact ⟨A, c, B, d, base, sl, h2, h1, h3, h4⟩
theorem PfM.row1 {w : World} {base : Nat} {A B : Option Addr} {c d : Nat} {own : List Int} {kids : List (List Int)} {sl : List Value} (h : PfM w base (.slice A own.length c) (.slice B kids.length d) own kids sl) :
    Row (Kd.int .i64) w (fun k => base ≤ k) A own ∧ Row (Kd.slice (Kd.int .i64)) w (fun k => base ≤ k) B kids := by
  obtain ⟨A', c', B', d', e1, e2, h1, h2⟩ := h.rows
  injection e1 with e1 _ _
  injection e2 with e2 _ _
  subst e1 e2
  exact ⟨h1, h2⟩
def tot (own : List Int) (kids : List (List Int)) : Nat := own.length + (kids.map List.length).sum
theorem sum_le (l : List Nat) (m : Nat) (h : ∀ x ∈ l, x ≤ m) : l.sum ≤ l.length * m := by
  induction l with
  | nil => simp
  | cons x l ih =>
    have h1 := ih (fun y hy => h y (List.mem_cons_of_mem _ hy))
    have h2 := h x (List.mem_cons_self ..)
    rw [List.sum_cons, List.length_cons, Nat.succ_mul]
    omega
theorem intsN_length (l : List Nat) : (intsN l).length = l.length := by rw [intsN, List.length_map]
theorem pfKids_wide : ∀ (p : List Int) (n : Nd), wt n ≤ 1048576 → ∀ l ∈ pfKids p n, l.length ≤ 1048576
  | [], _, _, l, h => by cases h
  | i :: p, n, hn, l, h => by
    rw [pfKids, List.mem_cons] at h
    rcases h with rfl | h
    · rw [intsN_length, sums_length]
      have := wt_eq n
      omega
    · refine pfKids_wide p _ ?_ l h
      cases hk : n.kids[i.toNat]? with
      | none => exact hn
      | some k =>
        obtain ⟨hi, rfl⟩ := List.getElem?_eq_some_iff.1 hk
        exact Nat.le_trans (wt_at hi) hn
theorem tot_le (p : List Int) (n : Nd) (hn : wt n ≤ 1048576) : tot (pfO (pfV p n)) (pfK (pfV p n)) ≤ 10000000 := by
  rw [pfV]
  split
  · rename_i h
    show (pfOwn p n).length + ((pfKids p n).map List.length).sum ≤ 10000000
    have h1 := sum_le ((pfKids p n).map List.length) 1048576 (fun x hx => by
      obtain ⟨l, hl, rfl⟩ := List.mem_map.1 hx
      exact pfKids_wide p n hn l hl)
    rw [List.length_map, pfKids_length] at h1
    rw [pfOwn_length]
    have := h.2.2
    have h2 : p.length * 1048576 ≤ 8 * 1048576 := Nat.mul_le_mul_right _ this
    omega
  · show 0 + 0 ≤ 10000000
    omega
structure PfH (w : World) (base : Nat) (vo vk : Value) (n : Nat) (ns : List Nat) (sl : List Value) (k : Nat) : Prop where
  own : w.ownsRow base 3 1 vo n (imarks k n)
  mm : MM w base vk sl ns (mmk (k + n) ns)
theorem PfH.same {w w1 : World} {base : Nat} {vo vk : Value} {n : Nat} {ns : List Nat} {sl : List Value} {k : Nat} (h : PfH w base vo vk n ns sl k) (hs : ∀ k, base ≤ k → k < w.heap.size → w1.heap[k]? = w.heap[k]?) : PfH w1 base vo vk n ns sl k :=
  ⟨own_kept h.own (fun k hk hlt => hs k (h.own.lt k hk).1 hlt), h.mm.same hs⟩
/-- Only these rows change, and new blocks. -/
structure InP (vo : Value) (sl : List Value) (w w' : World) : Prop where
  os : w'.os = w.os
  tape : w'.tape = w.tape
  output : w'.output = w.output
  size : w.heap.size ≤ w'.heap.size
  block : ∀ k, k < w.heap.size → vo.ownBlock ≠ some k → (∀ v ∈ sl, v.ownBlock ≠ some k) → w'.heap[k]? = w.heap[k]?
theorem markProof_calls (A B : Option Addr) (c d base k : Nat) (own : List Int) (kids : List (List Int)) (sl : List Value) (w : World) (h : PfM w base (.slice A own.length c) (.slice B kids.length d) own kids sl) (hk : k + tot own kids ≤ 1000000000) :
    Calls Tryz.prog 34 #[.agg #[.slice A own.length c, .slice B kids.length d], .int .i64 (k : Nat)] w fun e w' => e = .returned (.int .i64 ((k + tot own kids : Nat) : Int)) ∧ PfH w' base (.slice A own.length c) (.slice B kids.length d) own.length (kids.map List.length) sl k ∧ InP (.slice A own.length c) sl w w' := by
  obtain ⟨W, hW, HB, hsz, HG⟩ := boxed w #[.slice A own.length c, .slice B kids.length d] 35
  have hlen : kids.length = sl.length := by have := h.mm.len; rw [List.length_map] at this; exact this
  have hP := h.same (w1 := W) (fun k _ hk => HB.block k hk)
  have hk' : k + own.length + (kids.map List.length).sum ≤ 1000000000 := by rw [tot] at hk; omega
  have hb8 : ∀ j, (Value.slice A own.length c).ownBlock = some j → j < w.heap.size := fun j hj => (h.own.lt j hj).2
  have HC1 := Aside0.mk (markIntS_calls A own.length c k base _ W hP.own (by omega))
  have hD := Aside0.mk (And.intro h.d1 h.d2)
  have hmm := Aside0.mk hP.mm
  obtain ⟨c0, c1, _, _⟩ := two_cells HG
  have HG' := Aside0.mk HG
  have HB' := Aside0.mk HB
  have HW := Aside0.mk hW
  have hb8 := Aside0.mk hb8
  replace hlen := Aside0.mk hlen
  clear hW HG HB h hP
  go_enter Tryz.func34, Tryz.ntmps34
  go_upto_region 1 with fail
  rw [← HW.out]
  go_wp2_with fail
  refine (HC1.out).mono ?_
  rintro e w1 ⟨rfl, ho1, hg1⟩
  clear c0 c1
  have HB1 := HB'.out.size
  have hg8 : w1.heap[w.heap.size]? = W.heap[w.heap.size]? := hg1.block _ hsz (fun e => by have := hb8.out _ e.symm; omega)
  obtain ⟨_, c1, _, _⟩ := two_cells (hg8.trans HG'.out)
  have hm1 := hmm.out.kept (w1 := w1) (fun j hj hlt => hg1.block j hlt (fun e => by
    rcases hj with hj | ⟨v, hv, hj⟩
    · exact hD.out.1 j e.symm hj
    · exact hD.out.2 v hv j hj e.symm))
  have HC2 := Aside0.mk (markIntSS_calls B kids.length d (k + own.length) base sl (kids.map List.length) _ w1 hlen.out hm1 hk')
  have HO1 := Aside0.mk ho1
  have HG1 := Aside0.mk hg1
  clear ho1 hg1 hm1 hg8
  go_wp2_with fail
  refine (HC2.out).mono ?_
  rintro e w2 ⟨rfl, hm2, hi2⟩
  have hfin := Aside0.mk (show PfH w2 base (.slice A own.length c) (.slice B kids.length d) own.length (kids.map List.length) sl k from ⟨own_kept HO1.out (fun j hj hlt => hi2.block j hlt (fun v hv e => hD.out.2 v hv j e hj)), hm2⟩)
  have hfin2 := Aside0.mk (show InP (.slice A own.length c) sl w w2 from ⟨hi2.os.trans (HG1.out.os.trans HB'.out.os), hi2.tape.trans (HG1.out.tape.trans HB'.out.tape), hi2.output.trans (HG1.out.output.trans HB'.out.output), Nat.le_trans HB'.out.size (Nat.le_trans HG1.out.size hi2.size), fun j hj h1 h2 =>
    (hi2.block j (Nat.lt_of_lt_of_le hj (Nat.le_trans HB'.out.size HG1.out.size)) h2).trans ((HG1.out.block j (Nat.lt_of_lt_of_le hj HB'.out.size) (fun e => h1 e.symm)).trans (HB'.out.block j hj))⟩)
  have hend := Aside0.mk (show k + own.length + (kids.map List.length).sum = k + tot own kids by rw [tot]; omega)
  clear c1 hm2 hi2
  go_wp2
  go_ret
  exact ⟨by rw [← hend.out]; rfl, hfin.out, hfin2.out⟩
theorem heldProof_calls (A B : Option Addr) (c d base k m n : Nat) (ns : List Nat) (sl : List Value) (w : World) (hm : m = sl.length) (h : PfH w base (.slice A n c) (.slice B m d) n ns sl k) (hk : k + n + ns.sum ≤ 1000000000) :
    Calls Tryz.prog 35 #[.agg #[.slice A n c, .slice B m d], .int .i64 (k : Nat)] w fun e w' => e = .returned (.int .i64 ((k + n + ns.sum : Nat) : Int)) ∧ Below w.heap.size w w' := by
  obtain ⟨W, hW, HB, hsz, HG⟩ := boxed w #[.slice A n c, .slice B m d] 35
  have hP := h.same (w1 := W) (fun k _ hk => HB.block k hk)
  have HC1 := Aside0.mk (heldIntS_calls A n c k base W hP.own (by omega))
  have hmm := Aside0.mk hP.mm
  obtain ⟨c0, c1, _, _⟩ := two_cells HG
  have HG' := Aside0.mk HG
  have HB' := Aside0.mk HB
  have HW := Aside0.mk hW
  have hk0 : (0 : Int) ≤ ((k + n : Nat) : Int) := by omega
  have hk1 : (0 : Int) ≤ ((k + n + ns.sum : Nat) : Int) := by omega
  obtain ⟨K, hK⟩ : ∃ K, K = k + n := ⟨_, rfl⟩
  rw [← hK] at HC1 hmm hk hk0 hk1 ⊢
  obtain ⟨K2, hK2⟩ : ∃ K2, K2 = K + ns.sum := ⟨_, rfl⟩
  rw [← hK2] at hk1 ⊢
  replace hK2 := Aside0.mk hK2
  replace hm := Aside0.mk hm
  clear hW HG HB h hP hK
  go_enter Tryz.func35, Tryz.ntmps35
  go_upto_region 1 with fail
  rw [← HW.out]
  go_wp2_with fail
  refine (HC1.out).mono ?_
  rintro e w1 ⟨rfl, hd1⟩
  clear c0 c1
  obtain ⟨_, c1, _, _⟩ := two_cells ((hd1.below.block _ hsz).trans HG'.out)
  have HC2 := Aside0.mk (heldIntSS_calls B m d K base sl ns w1 hm.out (hmm.out.below hd1.below) hk)
  rw [← hK2.out] at HC2
  have hb1 := below_then HB'.out hd1.below
  clear hd1
  go_wp2_with fail
  refine (HC2.out).mono ?_
  rintro e w2 ⟨rfl, hd2⟩
  clear c1
  go_wp2
  go_ret
  exact ⟨rfl, below_then hb1 hd2.below⟩
end Go.Proofs.YtpcklgkpjmmakaaGreatDoor
end
section
/- FnExactProofOf's own body. -/
namespace Go.Proofs.YtpcklgkpjmmakaaGreatDoor
open Go.RowKit Go.Lib
set_option linter.unusedVariables false
set_option linter.unusedSimpArgs false
set_option maxHeartbeats 4000000
set_option maxRecDepth 100000
theorem own_ints {w : World} {base : Nat} {ok : Nat → Prop} {v : Value} {xs : List Int} (h : Own (Kd.int .i64) 3 w base ok v xs) : ∃ cells, w.ownsRow base 3 1 v xs.length cells := by
  obtain ⟨cells, ho, _⟩ := h
  exact ⟨cells, ho⟩
theorem below_cut {n : Nat} {w w1 : World} (h : Below n w w1) {m : Nat} (hm : m ≤ n) : Below m w w1 := ⟨h.os, h.tape, h.output, h.size, fun k hk => h.block k (by omega)⟩
theorem mks_below {S : Nat → Prop} {w w1 : World} {n : Nat} (h : Mks S w w1) (hn : n ≤ w.heap.size) (hS : ∀ k, S k → n ≤ k) : Below n w w1 := ⟨h.os, h.tape, h.output, h.size, fun k hk => h.block k (by omega) (fun e => by have := hS k e; omega)⟩
theorem grown_below {w w1 : World} {ob : Option Nat} {n : Nat} (h : w.grownBy w1 ob) (hn : n ≤ w.heap.size) (hS : ∀ k, ob = some k → n ≤ k) : Below n w w1 := ⟨h.os, h.tape, h.output, h.size, fun k hk => h.block k (by omega) (fun e => by have := hS k e.symm; omega)⟩
theorem inp_below {vo : Value} {sl : List Value} {w w1 : World} {n : Nat} (h : InP vo sl w w1) (hn : n ≤ w.heap.size) (h1 : ∀ k, vo.ownBlock = some k → n ≤ k) (h2 : ∀ v ∈ sl, ∀ k, v.ownBlock = some k → n ≤ k) : Below n w w1 :=
  ⟨h.os, h.tape, h.output, h.size, fun k hk => h.block k (by omega) (fun e => by have := h1 k e; omega) (fun v hv e => by have := h2 v hv k e; omega)⟩
theorem below_join {n : Nat} {a b c : World} (h : Below n a b) (k : Below n b c) : Below n a c := ⟨k.os.trans h.os, k.tape.trans h.tape, k.output.trans h.output, Nat.le_trans h.size k.size, fun j hj => (k.block j hj).trans (h.block j hj)⟩
theorem proofOf_law {ok o1 : Nat → Prop} (n : Nd) (s : Sh) (P : Option Addr) (cp : Nat) (path : List Int) (w : World) (hf : Fit n) (hn : NodeIs w ok n s) (hp : Row (Kd.int .i64) w o1 P path) (hE : Env w) (hF : Folds w) :
    Calls Tryz.prog 5 #[.agg #[.int .i64 n.kind, .string n.pre, .string n.loc, .string n.uri, .slice s.Ad n.decls.length s.cd, .slice s.Aa n.attrs.length s.ca, .slice s.Ak n.kids.length s.ck, .string n.text], .slice P path.length cp] w fun e w' => e = .returned (.bool true) ∧ Below w.heap.size w w' := by
  obtain ⟨Ad, cd, Aa, ca, Ak, ck⟩ := s
  have hpm := hp.max
  obtain ⟨W, hW, HB, hsz, HG⟩ := boxed w #[.int .i64 n.kind, .string n.pre, .string n.loc, .string n.uri, .slice Ad n.decls.length cd, .slice Aa n.attrs.length ca, .slice Ak n.kids.length ck, .string n.text] 57
  have HP := Aside0.mk (fun W1 (hb : Below W.heap.size W W1) => hp.below (below_then HB hb))
  have HN := Aside0.mk (fun W1 (hb : Below W.heap.size W W1) => hn.below (below_then HB hb))
  have HS := Aside0.mk (szNode_calls (cnt n) n ⟨Ad, cd, Aa, ca, Ak, ck⟩ 1048576 W ok (Nat.le_refl _) hf (by omega) (by omega) (hn.below HB))
  have HE := Aside0.mk (fun W1 (hb : Below W.heap.size W W1) => hE.below (below_then HB hb))
  have HF := Aside0.mk (fun W1 (hb : Below W.heap.size W W1) => hF.below (below_then HB hb))
  have K := Aside0.mk (fun W1 hb => box_cells (((hb : Below W.heap.size W W1).block _ hsz).trans HG))
  have HW := Aside0.mk hW
  have hszv := szV_cases 1048576 (wt n)
  obtain ⟨r, hr⟩ : ∃ r, r = szV 1048576 (wt n) := ⟨_, rfl⟩
  rw [← hr] at HS hszv
  simp only at HS ⊢
  clear hW HG hp hn hE hF hf hr
  go_enter Tryz.func5, Tryz.ntmps5
  go_upto_region 1 with fail
  rw [← HW.out]
  obtain ⟨a0, a1, a2, a3, a4, a5, a6, a7⟩ := K.out _ (Below.refl _ _)
  by_cases hpl : path.length ≤ 1048576
  case neg =>
    go_wp2
    go_ret
    exact ⟨rfl, HB⟩
  go_wp2_with fail
  refine (HS.out).mono ?_
  rintro e w1 ⟨rfl, hb1⟩
  clear a0 a1 a2 a3 a4 a5 a6 a7
  rcases hszv with ⟨hr, hle⟩ | ⟨hr, hle⟩
  case inr =>
    subst hr
    go_wp2
    go_ret
    exact ⟨rfl, below_then HB hb1⟩
  have hwt : wt n ≤ 1048576 := by omega
  have hr0 : 0 ≤ r := by omega
  clear hr hle
  have Hwt := Aside0.mk hwt
  clear hwt
  have Hpl := Aside0.mk hpl
  have HT := Aside0.mk (fun W1 (hb : Below W.heap.size W W1) => toNodeT_calls (cnt n) n ⟨Ad, cd, Aa, ca, Ak, ck⟩ W1 ok (Nat.le_refl _) Hwt.out (HN.out W1 hb))
  have HI := Aside0.mk (fun W1 (hb : Below W.heap.size W W1) => toIntS_calls P path cp W1 (HP.out W1 hb) Hpl.out)
  obtain ⟨R, hR⟩ : ∃ R, R = pfV path n := ⟨_, rfl⟩
  have htot := Aside0.mk (show tot (pfO R) (pfK R) ≤ 10000000 by rw [hR]; exact tot_le path n Hwt.out)
  have HSP := Aside0.mk (fun (s : Sh) (A : Option Addr) (c : Nat) (w : World) (ok o1 : Nat → Prop) (hn : NodeIs w ok n s) (hp : Row (Kd.int .i64) w o1 A path) => (specProofOf_calls n s A path c w Hwt.out hn hp).mono (fun _ _ h => PfOut.is h))
  have HIM := Aside0.mk (fun (s : Sh) (A : Option Addr) (c : Nat) (w : World) (ok o1 : Nat → Prop) (hn : NodeIs w ok n s) (hp : Row (Kd.int .i64) w o1 A path) (hE : Env w) (hF : Folds w) => (implProofOf_calls n s A path c w Hwt.out hn hp hE hF).mono (fun _ _ h => PfOut.is h))
  rw [← hR] at HSP HIM
  obtain ⟨own, hown⟩ : ∃ own, own = pfO R := ⟨_, rfl⟩
  obtain ⟨kids, hkids⟩ : ∃ kids, kids = pfK R := ⟨_, rfl⟩
  obtain ⟨q, hq⟩ : ∃ q, q = R.isSome := ⟨_, rfl⟩
  rw [← hown, ← hkids, ← hq] at HSP HIM
  rw [← hown, ← hkids] at htot
  have hqq : (q != q) = false := by simp
  clear hR hown hkids hq
  simp only at HT
  obtain ⟨a0, a1, a2, a3, a4, a5, a6, a7⟩ := K.out _ hb1
  -- the reference
  go_wp2_with fail
  refine (HT.out _ hb1).mono ?_
  rintro e w2 ⟨⟨s2, rfl, hs2⟩, hb2⟩
  have hb2 := below_then hb1 hb2
  go_wp2_with fail
  refine (HI.out _ hb2).mono ?_
  rintro e w3 ⟨⟨A3, c3, rfl, ho3⟩, hb3⟩
  obtain ⟨_, _, he3, _, r3⟩ := ho3.row (ok' := fun _ => True) (fun _ _ => trivial) (fun _ _ => trivial)
  cases he3
  have HC4 := Aside0.mk (HSP.out s2 A3 c3 w3 _ _ (hs2.below hb3) r3)
  have hb3 := below_then hb2 hb3
  clear hs2 ho3 r3 a0 a1 a2 a3 a4 a5 a6 a7
  go_wp2_with fail
  refine (HC4.out).mono ?_
  rintro e w4 ⟨A4, c4, B4, d4, b4, l4, rfl, -, hp4, hb4⟩
  have hb4 := below_then hb3 hb4
  obtain ⟨W5, hW5, HB5, hsz5, HG5⟩ := boxed w4 #[.slice A4 own.length c4, .slice B4 kids.length d4] 35
  have R4 := Aside0.mk (hp4.same (w1 := W5) (fun k _ hk => HB5.block k hk)).row1
  have hb5 := below_then hb4 HB5
  have K5 := Aside0.mk (fun W1 (hb : Below W5.heap.size W5 W1) => two_cells ((hb.block _ hsz5).trans HG5))
  have RR4 := Aside0.mk (fun W1 (hb : Below W5.heap.size W5 W1) => And.intro (R4.out.1.below hb) (R4.out.2.below hb))
  have HW5 := Aside0.mk hW5
  have HB05 := Aside0.mk hb5
  clear hW5 HG5 hp4 HB5 hb1 hb2 hb3 hb4
  go_upto_region 8 with fail
  rw [← HW5.out]
  -- the arguments
  obtain ⟨a0, a1, a2, a3, a4, a5, a6, a7⟩ := K.out _ hb5
  go_wp2_with fail
  refine (HT.out _ hb5).mono ?_
  rintro e w6 ⟨⟨s6, rfl, hs6⟩, hb6⟩
  clear a0 a1 a2 a3 a4 a5 a6 a7
  obtain ⟨W7, hW7, HB7, hsz7, HG7⟩ := boxed w6 #[.int .i64 n.kind, .string n.pre, .string n.loc, .string n.uri, .slice s6.Ad n.decls.length s6.cd, .slice s6.Aa n.attrs.length s6.ca, .slice s6.Ak n.kids.length s6.ck, .string n.text] 28
  have hz6 := hb6.size
  have hb57 := below_then hb6 HB7
  have hs7 : NodeIs W7 (NewT W5.heap.size W7) n s6 := hs6.belowT HB7
  have hs7b := Aside0.mk (hs6.bound)
  have HSH := Aside0.mk (shK_of (w := W7) (ok := fun k => NewT W5.heap.size w6 k ∧ k < w6.heap.size) (fun k hk => hk.1.2.same (HB7.block k hk.2)) (cnt n) n s6 (Nat.le_refl _) (hs7b.out.agree (w1 := W7) (fun k hk _ => HB7.block k hk.2)))
  have H7 := Aside0.mk (fun W1 (hb : Below W7.heap.size W7 W1) => hs7.below hb)
  have K7 := Aside0.mk (fun W1 hb => box_cells (((hb : Below W7.heap.size W7 W1).block _ hsz7).trans HG7))
  have HW7 := Aside0.mk hW7
  clear hW7 HG7 hs6 hs7 hs7b
  go_upto_region 9 with fail
  rw [← HW7.out]
  go_wp2_with fail
  refine (HI.out _ (below_then hb5 hb57)).mono ?_
  rintro e w8 ⟨⟨A8, c8, rfl, ho8⟩, hb8⟩
  obtain ⟨_, _, he8, _, r8⟩ := ho8.row (ok' := fun _ => True) (fun _ _ => trivial) (fun _ _ => trivial)
  cases he8
  obtain ⟨cs8, hx8⟩ := own_ints ho8
  have hb58 := below_then hb57 hb8
  obtain ⟨e0, e1, e2, e3, e4, e5, e6, e7⟩ := K7.out _ hb8
  have HC9 := Aside0.mk (HIM.out s6 A8 c8 w8 _ _ (H7.out _ hb8) r8 (HE.out _ (below_then hb5 hb58)) (HF.out _ (below_then hb5 hb58)))
  have R8 := Aside0.mk (fun W1 (hb : Below w8.heap.size w8 W1) => r8.below hb)
  have X8 := Aside0.mk hx8
  clear ho8 r8 hx8
  go_wp2_with fail
  refine (HC9.out).mono ?_
  rintro e w9 ⟨A9, c9, B9, d9, b9, l9, rfl, hle9, hp9, hb9⟩
  clear e0 e1 e2 e3 e4 e5 e6 e7
  obtain ⟨W10, hW10, HB10, hsz10, HG10⟩ := boxed w9 #[.slice A9 own.length c9, .slice B9 kids.length d9] 35
  have hb810 := below_then hb9 HB10
  have hz89 := hb9.size
  have hb510 := below_then hb58 hb810
  have HP10 := Aside0.mk (hp9.same (w1 := W10) (fun k _ hk => HB10.block k hk))
  have HP9 := Aside0.mk hp9
  have G10 := Aside0.mk HG10
  have HW10 := Aside0.mk hW10
  have hz8 := hb8.size
  have hz57 := HB7.size
  clear hW10 HG10 hp9 HB10 hb9
  go_upto_region 11 with fail
  rw [← HW10.out]
  obtain ⟨p0, p1, _, _⟩ := two_cells G10.out
  obtain ⟨q0, q1, _, _⟩ := K5.out _ hb510
  have HEQ := Aside0.mk (fun W1 (hb : Below W5.heap.size W5 W1) (hp : PfM W1 b9 (.slice A9 own.length c9) (.slice B9 kids.length d9) own kids l9) => eqProof_same A9 B9 A4 B4 own kids c9 d9 c4 d4 W1 hp.row1.1 hp.row1.2 (R4.out.1.agree (fun k _ hk => hb.block k hk)) (R4.out.2.agree (fun k _ hk => hb.block k hk)))
  go_wp2_with fail
  refine (HEQ.out W10 hb510 HP10.out).mono ?_
  rintro e w11 ⟨rfl, hb11⟩
  clear p0 p1 q0 q1
  have hb711 : Below W7.heap.size W7 w11 := below_then (below_then hb8 hb810) hb11
  have hb511 := below_then hb510 hb11
  obtain ⟨e0, e1, e2, e3, e4, e5, e6, e7⟩ := K7.out _ hb711
  obtain ⟨a0, a1, a2, a3, a4, a5, a6, a7⟩ := K.out _ (below_then hb5 hb511)
  go_upto_region 13 with fail
  have hbz : Below w11.heap.size w11 w11.drew := below_drew (Below.refl _ _)
  go_cut [56] (fun b wx => b = .bool false ∧ Below w11.heap.size w11 wx)
  case first =>
    go_region_with (first
      | (go_at_call 27; refine (HT.out _ (below_then (below_then hb5 hb511) hbz)).mono ?_; rintro e wt ⟨⟨⟨x0, x1, x2, x3, x4, x5⟩, rfl, hst⟩, hbt⟩
         have hbz := below_then hbz hbt
         have e0 := (K7.out _ (below_then hb711 hbz)).1
         have e1 := (K7.out _ (below_then hb711 hbz)).2.1
         have e2 := (K7.out _ (below_then hb711 hbz)).2.2.1
         have e3 := (K7.out _ (below_then hb711 hbz)).2.2.2.1
         have e4 := (K7.out _ (below_then hb711 hbz)).2.2.2.2.1
         have e5 := (K7.out _ (below_then hb711 hbz)).2.2.2.2.2.1
         have e6 := (K7.out _ (below_then hb711 hbz)).2.2.2.2.2.2.1
         have e7 := (K7.out _ (below_then hb711 hbz)).2.2.2.2.2.2.2)
      | (go_at_call 30; refine (eqNode_same (cnt n) n s6 ⟨x0, x1, x2, x3, x4, x5⟩ _ _ _ (Nat.le_refl _) (H7.out _ (below_then hb711 hbz)) hst).mono ?_; rintro e wu ⟨rfl, hbu⟩
         have hbz := below_then hbz hbu)
      | fail)
    all_goals (go_wp2_with fail; go_meet; exact ⟨rfl, hbz⟩)
  case rest =>
  obtain ⟨rfl, hb12⟩ := hcut
  obtain ⟨w12, hw12⟩ : ∃ x, x = wc := ⟨_, rfl⟩
  rw [← hw12] at hb12 ⊢
  clear e0 e1 e2 e3 e4 e5 e6 e7 a0 a1 a2 a3 a4 a5 a6 a7 hbz hw12
  have hb1012 := below_then hb11 hb12
  have hb512 := below_then hb511 hb12
  go_wp2_with fail
  refine (HI.out _ (below_then hb5 hb512)).mono ?_
  rintro e w13 ⟨⟨A13, c13, rfl, ho13⟩, hb13⟩
  obtain ⟨_, _, he13, _, r13⟩ := ho13.row (ok' := fun _ => True) (fun _ _ => trivial) (fun _ _ => trivial)
  cases he13
  have hb1013 := below_then hb1012 hb13
  have hb813 := below_then hb810 hb1013
  have HC14 := Aside0.mk (eqIntS_same A8 A13 path c8 c13 w13 (R8.out _ hb813) r13)
  clear ho13 r13 hb11 hb12 hb511 hb512 hb711 hb1012
  go_wp2_with fail
  refine (HC14.out).mono ?_
  rintro e wA ⟨rfl, hd14⟩
  have hb10A := below_then hb1013 hd14.below
  have hb8A := below_then hb810 hb10A
  have hb7A := below_then hb8 hb8A
  have hb5A := below_then hb57 hb7A
  clear hd14 hb1013 hb813
  -- marks of the arguments
  obtain ⟨e0, e1, e2, e3, e4, e5, e6, e7⟩ := K7.out _ hb7A
  have hmle := mkN_le (cnt n) n (Nat.le_refl _)
  have hmw := Hwt.out
  have HC15 := Aside0.mk (markNode_calls n s6 1 wA (HSH.out.marked (.of hb7A)) (Nat.le_refl _) (by omega))
  rw [show ((1 : Nat) : Int) = 1 from rfl] at HC15
  obtain ⟨k1, hk1⟩ : ∃ k1, k1 = 1 + mkN n := ⟨_, rfl⟩
  have hk1b : 1 ≤ k1 ∧ k1 ≤ 5242881 := by omega
  rw [← hk1] at HC15
  clear hk1 hmle hmw
  go_upto_region 18 with fail
  go_wp2_with fail
  refine (HC15.out).mono ?_
  rintro e wB ⟨rfl, hmB⟩
  clear e0 e1 e2 e3 e4 e5 e6 e7
  have hx8A := own_below X8.out hb8A
  have hx8 : wB.ownsRow W7.heap.size 3 1 (.slice A8 path.length c8) path.length cs8 := own_kept hx8A (fun k hk hlt => hmB.block k hlt (fun hS => by have := (hx8A.lt k hk).1; have := hS.2; omega))
  have hx8lt : ∀ k, (Value.slice A8 path.length c8).ownBlock = some k → W7.heap.size ≤ k ∧ k < w8.heap.size := fun k hk => X8.out.lt k hk
  have HC16 := Aside0.mk (markIntS_calls A8 path.length c8 k1 W7.heap.size cs8 wB hx8 (by omega))
  have hk2 : (0 : Int) ≤ ((k1 + path.length : Nat) : Int) := by omega
  obtain ⟨k2, hk2e⟩ : ∃ k2, k2 = k1 + path.length := ⟨_, rfl⟩
  rw [← hk2e] at HC16 hk2
  clear hk2e hx8A hx8
  go_wp2_with fail
  refine (HC16.out).mono ?_
  rintro e wC ⟨rfl, -, hgC⟩
  have hszA := hb8A.size
  have hszB := hmB.size
  have hb5B : Below W5.heap.size W5 wB := below_join hb5A (mks_below hmB hb5A.size (fun k hS => hS.1.1))
  have hb5C : Below W5.heap.size W5 wC := below_join hb5B (grown_below hgC hb5B.size (fun k hk => by have := (hx8lt k hk).1; have := hb57.size; omega))
  have hF8 : ∀ k, w8.heap.size ≤ k → k < wA.heap.size → wC.heap[k]? = wA.heap[k]? := fun k hk hlt =>
    (hgC.block k (by omega) (fun e => by have := (hx8lt k e.symm).2; omega)).trans (hmB.block k hlt (fun hS => by have := hS.2; omega))
  have hPC : PfM wC b9 (.slice A9 own.length c9) (.slice B9 kids.length d9) own kids l9 := (HP10.out.same (w1 := wA) (fun k _ hk => hb10A.block k hk)).same (fun k hk hlt => hF8 k (by omega) hlt)
  have hsz910 : w9.heap.size < wA.heap.size := Nat.lt_of_lt_of_le hsz10 hb10A.size
  have G10A : wC.heap[w9.heap.size]? = some (.cells #[.slice A9 own.length c9, .slice B9 kids.length d9] 35 (0, 0)) := (hF8 _ hz89 hsz910).trans ((hb10A.block _ hsz10).trans G10.out)
  have hgCs := hgC.size
  have hb9lt : ∀ v, (v = Value.slice A9 own.length c9 ∨ v ∈ l9) → ∀ k, v.ownBlock = some k → b9 ≤ k ∧ k < w9.heap.size := fun v hv k hk => by
    rcases hv with rfl | hv
    · exact HP9.out.own.lt k hk
    · exact HP9.out.mm.lt hv hk
  have HL9 := Aside0.mk hb9lt
  have hll9 := Aside0.mk (show kids.length = l9.length by have := HP9.out.mm.len; rw [List.length_map] at this; exact this)
  have HPC := Aside0.mk hPC
  have hszC : w9.heap.size < wC.heap.size := by omega
  have h58 : W5.heap.size ≤ b9 := by have := hb58.size; omega
  replace G10A := Aside0.mk G10A
  have H5C := Aside0.mk hb5C
  clear hszA hszB hb5B hb5C hF8 hPC hsz910 hgCs hb9lt hgC hmB hx8lt hb7A hb8A hb10A hb5A hb57 hb58 hb510 hb810 hb8 hz6 hz8 hz57 hz89
  obtain ⟨p0, p1, _, _⟩ := two_cells G10A.out
  obtain ⟨q0, q1, _, _⟩ := K5.out _ H5C.out
  go_wp2_with fail
  refine (HEQ.out wC H5C.out HPC.out).mono ?_
  rintro e wD ⟨rfl, hbD⟩
  clear p0 p1 q0 q1
  have HPD := Aside0.mk (HPC.out.same (w1 := wD) (fun k _ hk => hbD.block k hk))
  have G10D := Aside0.mk ((hbD.block _ hszC).trans G10A.out)
  have hszD : w9.heap.size < wD.heap.size := Nat.lt_of_lt_of_le hszC hbD.size
  have hb5D := below_then H5C.out hbD
  obtain ⟨p0, p1, _, _⟩ := two_cells G10D.out
  have hto := htot.out
  have HC20 := Aside0.mk (markProof_calls A9 B9 c9 d9 b9 1 own kids l9 wD HPD.out (by omega))
  rw [show ((1 : Nat) : Int) = 1 from rfl] at HC20
  obtain ⟨tt, htt⟩ : ∃ tt, tt = 1 + tot own kids := ⟨_, rfl⟩
  rw [← htt] at HC20
  have htt0 : (0 : Int) ≤ (tt : Int) := by omega
  have htq : ((tt : Int) != (tt : Int)) = false := by simp
  have htt2 := Aside0.mk (show 1 + own.length + (kids.map List.length).sum = tt by rw [htt, tot]; omega)
  have htt3 := Aside0.mk (show 1 + own.length + (kids.map List.length).sum ≤ 1000000000 by rw [tot] at hto; omega)
  clear htt hto hbD
  go_upto_region 23 with fail
  go_wp2_with fail
  refine (HC20.out).mono ?_
  rintro e wE ⟨rfl, hhE, hiE⟩
  clear p0 p1
  have hszE : w9.heap.size < wE.heap.size := Nat.lt_of_lt_of_le hszD hiE.size
  have G10E := Aside0.mk ((hiE.block _ hszD (fun e => by have := (HL9.out _ (.inl rfl) _ e).2; omega) (fun v hv e => by have := (HL9.out _ (.inr hv) _ e).2; omega)).trans G10D.out)
  have H5E := Aside0.mk (below_join hb5D (inp_below hiE hb5D.size (fun k hk => by have := (HL9.out _ (.inl rfl) _ hk).1; omega) (fun v hv k hk => by have := (HL9.out _ (.inr hv) _ hk).1; omega)))
  have HHE := Aside0.mk hhE
  have HHC := Aside0.mk (fun W1 (hb : Below wE.heap.size wE W1) => heldProof_calls A9 B9 c9 d9 b9 1 kids.length own.length (kids.map List.length) l9 W1 hll9.out (HHE.out.same (fun k _ hk => hb.block k hk)) htt3.out)
  rw [htt2.out, show ((1 : Nat) : Int) = 1 from rfl] at HHC
  clear hiE hhE hb5D
  obtain ⟨p0, p1, _, _⟩ := two_cells G10E.out
  go_upto_region 25 with fail
  go_wp2_with fail
  refine (HHC.out _ (Below.refl _ _)).mono ?_
  rintro e wF ⟨rfl, hbF⟩
  clear p0 p1
  have H5F := Aside0.mk (below_then H5E.out hbF)
  have HBF := Aside0.mk (below_then HB05.out H5F.out)
  obtain ⟨a0, a1, a2, a3, a4, a5, a6, a7⟩ := K.out _ HBF.out
  go_upto_region 30 with fail
  -- once more
  go_wp2_with fail
  refine (HT.out _ HBF.out).mono ?_
  rintro e wG ⟨⟨sG, rfl, hsG⟩, hbG⟩
  go_wp2_with fail
  refine (HI.out _ (below_then HBF.out hbG)).mono ?_
  rintro e wH ⟨⟨AH, cH, rfl, hoH⟩, hbH⟩
  obtain ⟨_, _, heH, _, rH⟩ := hoH.row (ok' := fun _ => True) (fun _ _ => trivial) (fun _ _ => trivial)
  cases heH
  have hbGH := below_then hbG hbH
  have hBH := below_then HBF.out hbGH
  have HCI := Aside0.mk (HIM.out sG AH cH wH _ _ (hsG.below hbH) rH (HE.out _ hBH) (HF.out _ hBH))
  clear hsG hoH rH a0 a1 a2 a3 a4 a5 a6 a7
  go_wp2_with fail
  refine (HCI.out).mono ?_
  rintro e wI ⟨AI, cI, BI, dI, bI, lI, rfl, -, hpI, hbI⟩
  have hbFI := below_then hbGH hbI
  obtain ⟨WJ, hWJ, HBJ, hszJ, HGJ⟩ := boxed wI #[.slice AI own.length cI, .slice BI kids.length dI] 35
  have hbFJ := below_then hbFI HBJ
  have HPJ := Aside0.mk (hpI.same (w1 := WJ) (fun k _ hk => HBJ.block k hk))
  have HEJ := Aside0.mk (eqProof_same AI BI A4 B4 own kids cI dI c4 d4 WJ HPJ.out.row1.1 HPJ.out.row1.2 (R4.out.1.agree (fun k _ hk => (below_then H5F.out hbFJ).block k hk)) (R4.out.2.agree (fun k _ hk => (below_then H5F.out hbFJ).block k hk)))
  obtain ⟨p0, p1, _, _⟩ := two_cells HGJ
  obtain ⟨q0, q1, _, _⟩ := K5.out _ (below_then H5F.out hbFJ)
  have HWJ := Aside0.mk hWJ
  clear hWJ HGJ hpI HBJ hbI hbGH hBH hbG hbH hbFI
  go_upto_region 31 with fail
  rw [← HWJ.out]
  go_wp2_with fail
  refine (HEJ.out).mono ?_
  rintro e wK ⟨rfl, hbK⟩
  clear p0 p1 q0 q1
  have hbEK := below_then hbF (below_then hbFJ hbK)
  obtain ⟨p0, p1, _, _⟩ := two_cells ((hbEK.block _ hszE).trans G10E.out)
  have hend := Aside0.mk (below_then HB (below_then HB05.out (below_then H5E.out hbEK)))
  go_upto_region 34 with fail
  go_wp2_with fail
  refine (HHC.out _ hbEK).mono ?_
  rintro e wL ⟨rfl, hbL⟩
  clear p0 p1
  go_wp2
  go_ret
  exact ⟨rfl, below_then hend.out hbL⟩
end Go.Proofs.YtpcklgkpjmmakaaGreatDoor
end
