/- Proven, of both. -/
import Derived.Test.YtdggfnpioljcbaaGreatDoorPo
import Derived.Test.YtdggfnpioljcbaaGreatDoorCopyS
import Derived.Test.YtdggfnpioljcbaaGreatDoorLater
namespace Go.Proofs.YtdggfnpioljcbaaGreatDoor
open Go.RowKit Go.Lib
set_option linter.unusedVariables false
set_option linter.unusedSimpArgs false
set_option maxHeartbeats 8000000
set_option maxRecDepth 100000
/-- The sum at the place's step i, of what stands below it. -/
def pvGo (path own : List Int) (kids : List (List Int)) : Nat → Nat → Option Nat
  | 0, h => some h
  | i + 1, h =>
    if (decide (0 ≤ path[i]?.getD 0) && decide (path[i]?.getD 0 ≤ ((kids[i]?.getD []).length : Int) - 1)) = true then
      pvGo path own kids i (foldH (own[i]?.getD 0).toNat (((kids[i]?.getD []).set (path[i]?.getD 0).toNat (h : Int)).map Int.toNat))
    else none
def pvEnd (sum : Int) : Option Nat → Bool
  | some h => (h : Int) == sum
  | none => false
def provenB (sum : Int) (path : List Int) (h : Nat) (own : List Int) (kids : List (List Int)) : Bool :=
  proofOkB own kids && (decide (own.length = path.length) && pvEnd sum (pvGo path own kids path.length h))
theorem pv_bad {path own : List Int} {kids : List (List Int)} {i h : Nat} (h1 : i < path.length) (h2 : i < kids.length)
    (hq : (decide (0 ≤ path[i]'h1) && decide (path[i]'h1 ≤ ((kids[i]'h2).length : Int) - 1)) = false) : pvGo path own kids (i + 1) h = none := by
  rw [pvGo, List.getElem?_eq_getElem h1, List.getElem?_eq_getElem h2, Option.getD_some, Option.getD_some, if_neg (by rw [hq]; decide)]
theorem pv_good {path own : List Int} {kids : List (List Int)} {i h p : Nat} (h1 : i < path.length) (h2 : i < kids.length) (h3 : i < own.length) (hp : path[i]'h1 = (p : Int))
    (hq : (decide (0 ≤ path[i]'h1) && decide (path[i]'h1 ≤ ((kids[i]'h2).length : Int) - 1)) = true) :
    pvGo path own kids (i + 1) h = pvGo path own kids i (foldH (own[i]'h3).toNat (((kids[i]'h2).set p (h : Int)).map Int.toNat)) := by
  rw [pvGo, List.getElem?_eq_getElem h1, List.getElem?_eq_getElem h2, List.getElem?_eq_getElem h3, Option.getD_some, Option.getD_some, Option.getD_some, if_pos hq, hp, Int.toNat_natCast]
theorem po_parts {own : List Int} {kids : List (List Int)} (h : proofOkB own kids = true) : own.length = kids.length ∧ own.length ≤ 8 ∧ (∀ x ∈ own, sumB x = true) ∧ ∀ k ∈ kids, k.length ≤ 60 ∧ ∀ x ∈ k, sumB x = true := by
  simp only [proofOkB, Bool.and_eq_true, decide_eq_true_eq, List.all_eq_true] at h
  exact h
theorem sumB_nat {x : Int} (h : sumB x = true) : x = (x.toNat : Int) ∧ x.toNat < 4294967296 := by
  simp only [sumB, Bool.and_eq_true, decide_eq_true_eq] at h
  omega
theorem sumB_of {x : Nat} (h : x < 4294967296) : sumB (x : Int) = true := by
  simp only [sumB, Bool.and_eq_true, decide_eq_true_eq]
  omega
theorem row_nat {w : World} {ok : Nat → Prop} {A : Option Addr} {xs : List Int} (h : Row (Kd.int .i64) w ok A xs) (hx : ∀ y ∈ xs, sumB y = true) : Row Kd.nat w ok A (xs.map Int.toNat) := by
  refine ⟨by rw [List.length_map]; exact h.1, ?_⟩
  rcases h.2 with h | ⟨b, o, hA, hb, hlt, hi⟩
  · left; rw [h]; rfl
  · refine .inr ⟨b, o, hA, hb, hlt, fun i h => ?_⟩
    have h' : i < xs.length := by rw [List.length_map] at h; exact h
    obtain ⟨cs, hk, hc⟩ := hi i h'
    refine ⟨cs, ?_, hc⟩
    have hk : cs = [.int .i64 (xs[i]'h')] := hk
    show cs = [.int .i64 ((((xs.map Int.toNat)[i]'h : Nat)) : Int)]
    rw [hk, List.getElem_map, ← (sumB_nat (hx _ (List.getElem_mem h'))).1]
theorem specFoldI_calls {ok : Nat → Prop} (x : Int) (A : Option Addr) (n c : Nat) (xs : List Int) (w : World) (hn : n = xs.length) (hx : sumB x = true) (hxs : ∀ y ∈ xs, sumB y = true) (hr : Row (Kd.int .i64) w ok A xs) :
    Calls Tryz.prog 52 #[.int .i64 x, .slice A n c] w fun e w' => e = .returned (.int .i64 (foldH x.toNat (xs.map Int.toNat) : Nat)) ∧ w = w' := by
  have hx' := sumB_nat hx
  have := specFold_calls x.toNat A c (xs.map Int.toNat) w hx'.2 (by
    intro y hy
    obtain ⟨z, hz, rfl⟩ := List.mem_map.1 hy
    exact (sumB_nat (hxs z hz)).2) (row_nat hr hxs)
  rw [List.length_map, ← hn, ← hx'.1] at this
  exact this
theorem implFoldI_calls {ok : Nat → Prop} (x : Int) (A : Option Addr) (n c : Nat) (xs : List Int) (w : World) (hn : n = xs.length) (hx : sumB x = true) (hxs : ∀ y ∈ xs, sumB y = true) (hr : Row (Kd.int .i64) w ok A xs) :
    Calls Tryz.prog 51 #[.int .i64 x, .slice A n c] w fun e w' => e = .returned (.int .i64 (foldH x.toNat (xs.map Int.toNat) : Nat)) ∧ w = w' := by
  have hx' := sumB_nat hx
  have := implFold_calls x.toNat A c (xs.map Int.toNat) w hx'.2 (by
    intro y hy
    obtain ⟨z, hz, rfl⟩ := List.mem_map.1 hy
    exact (sumB_nat (hxs z hz)).2) (row_nat hr hxs)
  rw [List.length_map, ← hn, ← hx'.1] at this
  exact this
theorem own_some {w : World} {base : Nat} {e : TypeId} {sz : Nat} {v : Value} {n : Nat} {cells : List Value} (h : w.ownsRow base e sz v n cells) (h0 : 0 < n) : ∃ g c, v = .slice (some ⟨g, 0, none⟩) n c ∧ base ≤ g ∧ g < w.heap.size := by
  obtain ⟨_, ⟨rfl, hn⟩ | ⟨g, cap, cur, rfl, hb, hh, _⟩⟩ := h
  · omega
  · exact ⟨g, cap, rfl, hb, (Array.getElem?_eq_some_iff.1 hh).1⟩
theorem ints_news {w : World} {ok : Nat → Prop} {a : Addr} {xs : List Int} (h : Row (Kd.int .i64) w ok (some a) xs) : ∀ j u, (xs.map (Value.int .i64))[j]? = some u → w.cell? (a.add j) = some u := by
  intro j u hj
  obtain ⟨hl, hv⟩ := List.getElem?_eq_some_iff.1 hj
  rw [List.length_map] at hl
  obtain ⟨b, o, hA, _, hc⟩ := int_at h j hl
  injection hA with hA
  subst hA
  rw [Addr.add_lit, hc, ← hv, List.getElem_map]
theorem ints_one (xs : List Int) : ∀ u ∈ xs.map (Value.int .i64), u.oneCell' = true := by
  intro u hu
  obtain ⟨x, _, rfl⟩ := List.mem_map.1 hu
  rfl
theorem ints_row {w : World} {base : Nat} {e : TypeId} {v : Value} {n : Nat} {xs : List Int} {g c : Nat} (h : w.ownsRow base e 1 (.slice (some ⟨g, 0, none⟩) n c) n (xs.map (Value.int .i64))) (hn : n = xs.length) :
    Row (Kd.int .i64) w (fun k => base ≤ k) (some ⟨g, 0, none⟩) xs := by
  subst hn
  have ho : Own (Kd.int .i64) e w base (fun k => base ≤ k) (.slice (some ⟨g, 0, none⟩) xs.length c) xs := ⟨_, h, by show _ = xs.length * 1; rw [List.length_map, Nat.mul_one], fun i hi => by
    show ((xs.map (Value.int .i64)).drop (i * 1)).take 1 = [Value.int .i64 (xs[i]'hi)]
    rw [Nat.mul_one, List.drop_eq_getElem_cons (by rw [List.length_map]; exact hi), List.getElem_map]
    rfl⟩
  obtain ⟨_, _, he, _, hr⟩ := ho.row (ok' := fun k => base ≤ k) (fun _ h => h) (fun k hk => (ho.base_le k hk).1)
  cases he
  exact hr
theorem l1InB (x a b : Int) (w : World) : Calls Tryz.prog 100 #[.int .i64 x, .int .i64 a, .int .i64 b] w fun e w' => e = .returned (.bool (decide (a ≤ x) && decide (x ≤ b))) ∧ Below w.heap.size w w' :=
  (l1In_calls x a b w).mono fun e w' ⟨h, hw⟩ => ⟨h, hw ▸ Below.refl _ _⟩
/-- A new slice that says xs. -/
def NewInts (w : World) (xs : List Int) (e : Ending) (w' : World) : Prop := (∃ A c, e = .returned (.slice A xs.length c) ∧ w'.ownsRow w.heap.size 3 1 (.slice A xs.length c) xs.length (xs.map (Value.int .i64))) ∧ Below w.heap.size w w'
theorem cloneInts_calls {ok : Nat → Prop} (A : Option Addr) (c : Nat) (xs : List Int) (w : World) (hl : xs.length ≤ 1048576) (hr : Row (Kd.int .i64) w ok A xs) :
    Calls Tryz.prog 102 #[.slice A xs.length c] w (NewInts w xs) := by
  have q : ∀ (w : World) (a : Option Addr) (n c n' c' : Nat), (binOp .eql 53 (.slice a n c) (.slice none n' c')).run Tryz.prog w = .ok (.bool a.isNone) w := fun w a n c n' c' => Lib.run_eql_slice_nil w _ _ a n c n' c' Tryz.underlying53
  cases A with
  | none =>
    have hx : xs = [] := by rcases hr.2 with h | ⟨b, o, hA, _⟩; exact h; cases hA
    subst hx
    go_enter Tryz.func102, Tryz.ntmps102
    go_wp2
    go_ret
    exact ⟨⟨none, 0, rfl, World.ownsRow_nil _ _ _ _⟩, Below.refl _ _⟩
  | some a =>
    obtain ⟨i, hi, hz0, hz1, hz2⟩ := info_parts Tryz.info_int
    have hown0 := Aside0.mk (World.ownsRow_made (e := 3) (size := 1) w #[] 0 (Nat.le_refl _) (Nat.zero_le _) (by simp))
    have hnews := Aside0.mk (ints_news hr)
    have hone := Aside0.mk (ints_one xs)
    clear hr
    go_enter Tryz.func102, Tryz.ntmps102
    go_wp2_with (at_builtin; refine wpList_append_own _ rfl _ _ 53 rfl w.heap.size 3 i (.int .i64 0) 1 _ Tryz.underlying53 hi hz0 hz1 rfl rfl (by decide) _ _ _ rfl hown0.out a xs.length c (xs.map (Value.int .i64)) rfl ?qc1 ?qc2 ?qc3 ?qc4 ?qc5 ?qc6 ?_)
    case qc1 => rw [List.length_map, Nat.mul_one]
    case qc2 => exact fun j u hj => Lib.cell?_alloc_some _ (hnews.out j u hj)
    case qc3 => exact hone.out
    case qc4 => unfold maxLen; omega
    case qc5 => rw [hz2, Nat.zero_add]; omega
    case qc6 => simp
    intro v' w1 hown hgrow hnil
    obtain ⟨A', c', hv', hcl⟩ : ∃ A c, v' = .slice A xs.length c ∧ xs.length ≤ c := by
      obtain ⟨_, ⟨rfl, hn⟩ | ⟨g, cap, cur, rfl, hb, hh, hl, _⟩⟩ := hown
      · exact ⟨none, 0, by rw [show xs.length = 0 by omega], by omega⟩
      · exact ⟨_, _, rfl, by omega⟩
    subst hv'
    try rw [Nat.zero_add] at hown
    try rw [List.nil_append] at hown
    have hown := Aside0.mk hown
    have hbl := Aside0.mk (show Below w.heap.size w w1 from ((Below.refl _ w).alloc (Nat.le_refl _) _).grown hgrow (by simp) (by intro k hk; simp [Value.ownBlock] at hk; omega))
    clear hcl hgrow
    go_wp2
    go_ret
    exact ⟨⟨A', c', rfl, hown.out⟩, hbl.out⟩
theorem set_sum {xs : List Int} {p h : Nat} (hx : ∀ y ∈ xs, sumB y = true) (hh : h < 4294967296) : ∀ y ∈ xs.set p (h : Int), sumB y = true := by
  intro y hy
  rcases List.mem_or_eq_of_mem_set hy with h | rfl
  · exact hx y h
  · exact sumB_of hh
theorem in_nat {x : Int} {n : Nat} (hq : (decide (0 ≤ x) && decide (x ≤ (n : Int) - 1)) = true) : ∃ p : Nat, x = (p : Int) ∧ p < n := by
  simp only [Bool.and_eq_true, decide_eq_true_eq] at hq
  exact ⟨x.toNat, by omega, by omega⟩
theorem implProven_calls {o1 o2 o3 o4 : Nat → Prop} (sum : Int) (P : Option Addr) (cp : Nat) (path : List Int) (n : Nd) (s : Sh) (A B : Option Addr) (own : List Int) (kids : List (List Int)) (c c' : Nat) (w : World)
    (hp : Row (Kd.int .i64) w o1 P path) (hwt : wt n ≤ 1048576) (hn : NodeIs w o2 n s) (h1 : Row (Kd.int .i64) w o3 A own) (h2 : Row (Kd.slice (Kd.int .i64)) w o4 B kids) (hE : Env w) (hF : Folds w) :
    Calls Tryz.prog 31 #[.int .i64 sum, .slice P path.length cp, .agg #[.int .i64 n.kind, .string n.pre, .string n.loc, .string n.uri, .slice s.Ad n.decls.length s.cd, .slice s.Aa n.attrs.length s.ca, .slice s.Ak n.kids.length s.ck, .string n.text], .agg #[.slice A own.length c, .slice B kids.length c']] w fun e w' => e = .returned (.bool (provenB sum path (sumN n) own kids)) ∧ Below w.heap.size w w' := by
  obtain ⟨Ad, cd, Aa, ca, Ak, ck⟩ := s
  obtain ⟨R, hR⟩ : ∃ R, R = provenB sum path (sumN n) own kids := ⟨_, rfl⟩
  rw [← hR]
  have hpm := hp.max
  have hom := h1.max
  have hkm := h2.max
  obtain ⟨W0, hW0, HB0, hsz0, HG0⟩ := boxed w #[.int .i64 n.kind, .string n.pre, .string n.loc, .string n.uri, .slice Ad n.decls.length cd, .slice Aa n.attrs.length ca, .slice Ak n.kids.length ck, .string n.text] 33
  obtain ⟨W, hW, HB1, hsz1, HG1⟩ := boxed W0 #[.slice A own.length c, .slice B kids.length c'] 60
  have HB := below_then HB0 HB1
  have HP := Aside0.mk (fun W1 (hb : Below W.heap.size W W1) => hp.below (below_then HB hb))
  have HO := Aside0.mk (fun W1 (hb : Below W.heap.size W W1) => h1.below (below_then HB hb))
  have HK := Aside0.mk (fun W1 (hb : Below W.heap.size W W1) => h2.below (below_then HB hb))
  have HS := Aside0.mk (fun W1 (hb : Below W.heap.size W W1) => implSumOf_calls (cnt n) n ⟨Ad, cd, Aa, ca, Ak, ck⟩ W1 o2 (Nat.le_refl _) hwt (hn.below (below_then HB hb)) (hE.below (below_then HB hb)) (hF.below (below_then HB hb)))
  have HPO := Aside0.mk (implProofOk_calls A B own kids c c' W (h1.below HB) (h2.below HB))
  have K := Aside0.mk (fun W1 hb => box_cells (((hb : Below W0.heap.size W0 W1).block _ hsz0).trans HG0))
  have HB1' := Aside0.mk HB1
  have hs0 : W0.heap.size = w.heap.size + 1 := by rw [hW0]; exact Array.size_push _
  rw [hs0] at hsz1 HG1
  have KP := Aside0.mk (show ∀ W1, Below W.heap.size W W1 → W1.cell? ⟨w.heap.size + 1, 0, none⟩ = some (.slice A own.length c) ∧ W1.cell? ⟨w.heap.size + 1, 1, none⟩ = some (.slice B kids.length c') from
    fun W1 hb => ⟨cell_of_row W1 _ 0 _ _ _ ((hb.block _ hsz1).trans HG1), cell_of_row W1 _ 1 _ _ _ ((hb.block _ hsz1).trans HG1)⟩)
  have HW0 := Aside0.mk hW0
  have HW := Aside0.mk hW
  have HR := Aside0.mk (show R = (proofOkB own kids && (decide (own.length = path.length) && pvEnd sum (pvGo path own kids path.length (sumN n)))) from hR)
  simp only at HS
  clear hW0 hW HG0 HG1 hp h1 h2 hn hE hF hR hwt HB1 hs0
  go_enter Tryz.func31, Tryz.ntmps31
  go_upto_region 1 with fail
  rw [← HW0.out, ← HW.out]
  obtain ⟨p0, p1⟩ := KP.out _ (Below.refl _ _)
  cases hq : proofOkB own kids with
  | false =>
    have hfin := Aside0.mk (show R = false by rw [HR.out, hq]; rfl)
    rw [hq] at HPO
    clear hq
    go_wp2_with fail
    refine (HPO.out).mono ?_
    rintro e w1 ⟨rfl, hb1⟩
    clear p0 p1
    obtain ⟨p0, p1⟩ := KP.out _ hb1
    go_wp2
    go_ret
    exact ⟨by rw [hfin.out]; rfl, below_then HB hb1⟩
  | true =>
    have Hq := Aside0.mk (po_parts hq)
    have HR := Aside0.mk (show R = (decide (own.length = path.length) && pvEnd sum (pvGo path own kids path.length (sumN n))) by rw [HR.out, hq]; rfl)
    rw [hq] at HPO
    clear hq
    go_wp2_with fail
    refine (HPO.out).mono ?_
    rintro e w1 ⟨rfl, hb1⟩
    clear p0 p1
    obtain ⟨p0, p1⟩ := KP.out _ hb1
    obtain ⟨a0, a1, a2, a3, a4, a5, a6, a7⟩ := K.out _ (below_then HB1'.out hb1)
    by_cases hlen : own.length = path.length
    case neg =>
      have hfin := Aside0.mk (show R = false by rw [HR.out, decide_eq_false hlen]; rfl)
      have hll : ((own.length : Int) != (path.length : Int)) = true := by simp; omega
      clear hlen
      go_wp2
      go_ret
      exact ⟨by rw [hfin.out]; rfl, below_then HB hb1⟩
    have hll : ((own.length : Int) != (path.length : Int)) = false := by simp [hlen]
    have HR := Aside0.mk (show R = pvEnd sum (pvGo path own kids path.length (sumN n)) by rw [HR.out, decide_eq_true hlen]; rfl)
    have Hlen := Aside0.mk hlen
    clear hlen
    go_wp2_with fail
    refine (HS.out _ hb1).mono ?_
    rintro e w2 ⟨rfl, hb2⟩
    have hb12 := below_then hb1 hb2
    clear p0 p1 a0 a1 a2 a3 a4 a5 a6 a7 hll hb1 hb2
    obtain ⟨h0, hh0⟩ : ∃ h0, h0 = sumN n := ⟨_, rfl⟩
    have hlt0 : h0 < 4294967296 := by rw [hh0]; exact sumN_lt n
    rw [← hh0] at HR ⊢
    clear hh0
    go_wp2_with fail
    go_loopg [9, 10] path.length (fun k a i wr => ∃ (h : Nat) (v : Int), a = .int .i64 h ∧ i = .int .i64 v ∧ v = (k : Int) - 1 ∧ k ≤ path.length ∧ h < 4294967296 ∧ Aside (R = pvEnd sum (pvGo path own kids k h)) ∧ Below W.heap.size W wr)
    case atStart => exact ⟨h0, _, rfl, rfl, rfl, Nat.le_refl _, hlt0, HR.out, hb12⟩
    case round =>
      clear hb12 hlt0
      obtain ⟨h, v, rfl, rfl, hk, hkl, hlt, ha, hb⟩ := hrel
      rcases gk with _ | m
      · have hv : v < 0 := by omega
        clear hk hkl
        have hfin := Aside0.mk (show R = ((h : Int) == sum) from ha.out)
        clear ha
        go_wp2
        go_ret
        exact ⟨by rw [hfin.out]; rfl, below_then HB hb⟩
      · obtain rfl : v = (m : Int) := by omega
        obtain ⟨hl1, hl8, hso, hsk⟩ := Hq.out
        have hl2 := Hlen.out
        have m1 : m < path.length := by omega
        have m2 : m < own.length := by omega
        have m3 : m < kids.length := by omega
        obtain ⟨b, o, rfl, hbl, d⟩ := int_at (HP.out _ hb) m m1
        obtain ⟨b2, o2, rfl, hbl2, d2⟩ := int_at (HO.out _ hb) m m2
        obtain ⟨b3, o3, A3, c3, rfl, hbl3, d3, _, g3⟩ := slice_at (HK.out _ hb) m m3
        obtain ⟨k60, hsx⟩ := hsk _ (List.getElem_mem m3)
        have hso := Aside0.mk (hso _ (List.getElem_mem m2))
        have hsx := Aside0.mk hsx
        obtain ⟨p0, p1⟩ := KP.out _ hb
        have hbz0 : w.heap.size + 1 < wr.heap.size := Nat.lt_of_lt_of_le hsz1 hb.size
        have HC := Aside0.mk (cloneInts_calls A3 c3 (kids[m]'m3) wr (by omega) g3)
        have hok := Aside0.mk (fun hq => pv_bad (own := own) (h := h) m1 m3 hq)
        have hgd := Aside0.mk (fun p hp hq => pv_good (h := h) (p := p) m1 m3 m2 hp hq)
        obtain ⟨x, hx⟩ : ∃ x, x = path[m]'m1 := ⟨_, rfl⟩
        obtain ⟨y, hy⟩ : ∃ y, y = own[m]'m2 := ⟨_, rfl⟩
        obtain ⟨ks, hks⟩ : ∃ ks, ks = kids[m]'m3 := ⟨_, rfl⟩
        simp only [← hx, ← hy, ← hks] at d d2 d3 k60 hso hsx HC hok hgd
        have D2 := Aside0.mk (fun w' (h : Below wr.heap.size wr w') => (h.cell (p := ⟨b2, o2 + m, none⟩) hbl2).trans d2)
        have i1 : (m : Int) < (path.length : Int) := by omega
        have i2 : (m : Int) < (own.length : Int) := by omega
        have i3 : (m : Int) < (kids.length : Int) := by omega
        clear hx hy hks g3 hk hsk hl1 hl2
        go_wp2_with fail
        refine HC.out.mono ?_
        rintro e w3 ⟨⟨A4, c4, rfl, hown⟩, hb3⟩
        have hown := Aside0.mk hown
        have hb03 := below_then hb hb3
        obtain ⟨hc3, _⟩ := bcell hb3
        have d' := (hc3 _ _ hbl).trans d
        have d2' := (hc3 _ _ hbl2).trans d2
        have p0' := (hc3 _ _ hbz0).trans p0
        clear d d2 d3 p0 p1 hc3
        cases hq : (decide (0 ≤ x) && decide (x ≤ (ks.length : Int) - 1)) with
        | false =>
          have hfin := Aside0.mk (show R = false by rw [ha.out, hok.out hq]; rfl)
          have HI := Aside0.mk (in_calls x 0 ((ks.length : Int) - 1) w3)
          rw [hq] at HI
          clear hq ha
          go_wp2_with fail
          refine (HI.out).mono ?_
          rintro e w4 ⟨rfl, rfl⟩
          go_wp2
          go_ret
          exact ⟨by rw [hfin.out]; rfl, below_then HB hb03⟩
        | true =>
          obtain ⟨p, rfl, hpl⟩ := in_nat hq
          have hnx := Aside0.mk (ha.out.trans (congrArg (pvEnd sum) (hgd.out p rfl hq)))
          have HI := Aside0.mk (in_calls (p : Int) 0 ((ks.length : Int) - 1) w3)
          rw [hq] at HI
          clear hq ha
          obtain ⟨g, cap, he, hbg, hgl⟩ := own_some hown.out (by omega)
          injection he with he1 he2 he3
          subst he1 he3
          have hcl := hown.out.cellAt p (by omega)
          have hx : p < (ks.map (Value.int .i64)).length := by rw [List.length_map]; exact hpl
          rw [List.getElem?_eq_getElem hx] at hcl
          have hfr := hown.out.frozenAt p
          have hst := Aside0.mk (hown.out.stored p (.int .i64 (h : Int)))
          have i4 : (p : Int) < (ks.length : Int) := by omega
          go_wp2_with fail
          refine (HI.out).mono ?_
          rintro e w4 ⟨rfl, rfl⟩
          go_upto_region 11 with fail
          have hst1 := hst.out.1
          rw [show (ks.map (Value.int .i64)).set p (.int .i64 (h : Int)) = (ks.set p (h : Int)).map (Value.int .i64) by rw [List.map_set]] at hst1
          have hrow := Aside0.mk (ints_row (v := .int .i64 0) hst1 (by rw [List.length_set]))
          have hb5 : Below W.heap.size W (w3.setCell ⟨g, p, none⟩ (.int .i64 (h : Int))) := below_setNew hb03 (Nat.le_trans hb.size hbg)
          have hne2 : (w3.setCell ⟨g, p, none⟩ (.int .i64 (h : Int))).cell? ⟨b2, o2 + m, none⟩ = some (.int .i64 y) := D2.out _ (below_setNew hb3 hbg)
          have hne3 : (w3.setCell ⟨g, p, none⟩ (.int .i64 (h : Int))).cell? ⟨w.heap.size + 1, 0, none⟩ = some (.slice (some ⟨b2, o2, none⟩) own.length c) := (KP.out _ hb5).1
          obtain ⟨w5, hw5⟩ : ∃ w5, w5 = w3.setCell ⟨g, p, none⟩ (.int .i64 (h : Int)) := ⟨_, rfl⟩
          rw [← hw5] at hrow hb5 hne2 hne3 ⊢
          clear hw5 hst hst1 hcl hfr d' d2' p0'
          go_wp2_with fail
          refine (implFoldI_calls y _ _ _ (ks.set p (h : Int)) w5 (by rw [List.length_set]) hso.out (set_sum hsx.out hlt) hrow.out).mono ?_
          rintro e w6 ⟨rfl, rfl⟩
          have hlt2 := foldH_lt y.toNat ((ks.set p (h : Int)).map Int.toNat) (sumB_nat hso.out).2
          obtain ⟨h2, hh2⟩ : ∃ h2, h2 = foldH y.toNat ((ks.set p (h : Int)).map Int.toNat) := ⟨_, rfl⟩
          rw [← hh2] at hnx hlt2 ⊢
          clear hlt hne2 hne3 hh2
          go_wp2
          go_roundg m
          case measure => omega
          case rel => exact ⟨_, (m : Int) - 1, rfl, by go_num, rfl, by omega, hlt2, hnx.out, hb5⟩
theorem specProven_calls {o1 o2 o3 o4 : Nat → Prop} (sum : Int) (P : Option Addr) (cp : Nat) (path : List Int) (n : Nd) (s : Sh) (A B : Option Addr) (own : List Int) (kids : List (List Int)) (c c' : Nat) (w : World)
    (hp : Row (Kd.int .i64) w o1 P path) (hwt : wt n ≤ 1048576) (hn : NodeIs w o2 n s) (h1 : Row (Kd.int .i64) w o3 A own) (h2 : Row (Kd.slice (Kd.int .i64)) w o4 B kids) :
    Calls Tryz.prog 28 #[.int .i64 sum, .slice P path.length cp, .agg #[.int .i64 n.kind, .string n.pre, .string n.loc, .string n.uri, .slice s.Ad n.decls.length s.cd, .slice s.Aa n.attrs.length s.ca, .slice s.Ak n.kids.length s.ck, .string n.text], .agg #[.slice A own.length c, .slice B kids.length c']] w fun e w' => e = .returned (.bool (provenB sum path (sumN n) own kids)) ∧ Below w.heap.size w w' := by
  obtain ⟨Ad, cd, Aa, ca, Ak, ck⟩ := s
  obtain ⟨ii, hii, hz0, hz1, hz2⟩ := info_parts Tryz.info_int
  have Hz2 := Aside0.mk hz2
  clear hz2
  obtain ⟨R, hR⟩ : ∃ R, R = provenB sum path (sumN n) own kids := ⟨_, rfl⟩
  rw [← hR]
  have hpm := hp.max
  have hom := h1.max
  have hkm := h2.max
  obtain ⟨W0, hW0, HB0, hsz0, HG0⟩ := boxed w #[.int .i64 n.kind, .string n.pre, .string n.loc, .string n.uri, .slice Ad n.decls.length cd, .slice Aa n.attrs.length ca, .slice Ak n.kids.length ck, .string n.text] 33
  obtain ⟨W, hW, HB1, hsz1, HG1⟩ := boxed W0 #[.slice A own.length c, .slice B kids.length c'] 60
  have HB := below_then HB0 HB1
  have HP := Aside0.mk (fun W1 (hb : Below W.heap.size W W1) => hp.below (below_then HB hb))
  have HO := Aside0.mk (fun W1 (hb : Below W.heap.size W W1) => h1.below (below_then HB hb))
  have HK := Aside0.mk (fun W1 (hb : Below W.heap.size W W1) => h2.below (below_then HB hb))
  have HS := Aside0.mk (fun W1 (hb : Below W.heap.size W W1) => specSumOf_calls (cnt n) n ⟨Ad, cd, Aa, ca, Ak, ck⟩ W1 o2 (Nat.le_refl _) hwt (hn.below (below_then HB hb)))
  have HPO := Aside0.mk (specProofOk_calls A B own kids c c' W (h1.below HB) (h2.below HB))
  have K := Aside0.mk (fun W1 hb => box_cells (((hb : Below W0.heap.size W0 W1).block _ hsz0).trans HG0))
  have HB1' := Aside0.mk HB1
  have hs0 : W0.heap.size = w.heap.size + 1 := by rw [hW0]; exact Array.size_push _
  rw [hs0] at hsz1 HG1
  have KP := Aside0.mk (show ∀ W1, Below W.heap.size W W1 → W1.cell? ⟨w.heap.size + 1, 0, none⟩ = some (.slice A own.length c) ∧ W1.cell? ⟨w.heap.size + 1, 1, none⟩ = some (.slice B kids.length c') from
    fun W1 hb => ⟨cell_of_row W1 _ 0 _ _ _ ((hb.block _ hsz1).trans HG1), cell_of_row W1 _ 1 _ _ _ ((hb.block _ hsz1).trans HG1)⟩)
  have HW0 := Aside0.mk hW0
  have HW := Aside0.mk hW
  have HR := Aside0.mk (show R = (proofOkB own kids && (decide (own.length = path.length) && pvEnd sum (pvGo path own kids path.length (sumN n)))) from hR)
  simp only at HS
  clear hW0 hW HG0 HG1 hp h1 h2 hn hR hwt HB1 hs0
  go_enter Tryz.func28, Tryz.ntmps28
  go_upto_region 1 with fail
  rw [← HW0.out, ← HW.out]
  obtain ⟨p0, p1⟩ := KP.out _ (Below.refl _ _)
  cases hq : proofOkB own kids with
  | false =>
    have hfin := Aside0.mk (show R = false by rw [HR.out, hq]; rfl)
    rw [hq] at HPO
    clear hq
    go_wp2_with fail
    refine (HPO.out).mono ?_
    rintro e w1 ⟨rfl, hb1⟩
    clear p0 p1
    obtain ⟨p0, p1⟩ := KP.out _ hb1
    go_wp2
    go_ret
    exact ⟨by rw [hfin.out]; rfl, below_then HB hb1⟩
  | true =>
    have Hq := Aside0.mk (po_parts hq)
    have HR := Aside0.mk (show R = (decide (own.length = path.length) && pvEnd sum (pvGo path own kids path.length (sumN n))) by rw [HR.out, hq]; rfl)
    rw [hq] at HPO
    clear hq
    go_wp2_with fail
    refine (HPO.out).mono ?_
    rintro e w1 ⟨rfl, hb1⟩
    clear p0 p1
    obtain ⟨p0, p1⟩ := KP.out _ hb1
    obtain ⟨a0, a1, a2, a3, a4, a5, a6, a7⟩ := K.out _ (below_then HB1'.out hb1)
    by_cases hlen : own.length = path.length
    case neg =>
      have hfin := Aside0.mk (show R = false by rw [HR.out, decide_eq_false hlen]; rfl)
      have hll : ((own.length : Int) != (path.length : Int)) = true := by simp; omega
      clear hlen
      go_wp2
      go_ret
      exact ⟨by rw [hfin.out]; rfl, below_then HB hb1⟩
    have hll : ((own.length : Int) != (path.length : Int)) = false := by simp [hlen]
    have HR := Aside0.mk (show R = pvEnd sum (pvGo path own kids path.length (sumN n)) by rw [HR.out, decide_eq_true hlen]; rfl)
    have Hlen := Aside0.mk hlen
    clear hlen
    go_wp2_with fail
    refine (HS.out _ hb1).mono ?_
    rintro e w2 ⟨rfl, hb2⟩
    have hb12 := below_then hb1 hb2
    clear p0 p1 a0 a1 a2 a3 a4 a5 a6 a7 hll hb1 hb2
    obtain ⟨h0, hh0⟩ : ∃ h0, h0 = sumN n := ⟨_, rfl⟩
    have hlt0 : h0 < 4294967296 := by rw [hh0]; exact sumN_lt n
    rw [← hh0] at HR ⊢
    clear hh0
    go_wp2_with fail
    go_loopg [9, 10] path.length (fun k a i wr => ∃ (h : Nat) (v : Int), a = .int .i64 h ∧ i = .int .i64 v ∧ v = (k : Int) - 1 ∧ k ≤ path.length ∧ h < 4294967296 ∧ Aside (R = pvEnd sum (pvGo path own kids k h)) ∧ Below W.heap.size W wr)
    case atStart => exact ⟨h0, _, rfl, rfl, rfl, Nat.le_refl _, hlt0, HR.out, hb12⟩
    case round =>
      clear hb12 hlt0
      obtain ⟨h, v, rfl, rfl, hk, hkl, hlt, ha, hb⟩ := hrel
      rcases gk with _ | m
      · have hv : v < 0 := by omega
        clear hk hkl
        have hfin := Aside0.mk (show R = ((h : Int) == sum) from ha.out)
        clear ha
        go_wp2
        go_ret
        exact ⟨by rw [hfin.out]; rfl, below_then HB hb⟩
      · obtain rfl : v = (m : Int) := by omega
        obtain ⟨hl1, hl8, hso, hsk⟩ := Hq.out
        have hl2 := Hlen.out
        have m1 : m < path.length := by omega
        have m2 : m < own.length := by omega
        have m3 : m < kids.length := by omega
        obtain ⟨b, o, rfl, hbl, d⟩ := int_at (HP.out _ hb) m m1
        obtain ⟨b2, o2, rfl, hbl2, d2⟩ := int_at (HO.out _ hb) m m2
        obtain ⟨b3, o3, A3, c3, rfl, hbl3, d3, _, g3⟩ := slice_at (HK.out _ hb) m m3
        obtain ⟨k60, hsx⟩ := hsk _ (List.getElem_mem m3)
        have hso := Aside0.mk (hso _ (List.getElem_mem m2))
        have hsx := Aside0.mk hsx
        obtain ⟨p0, p1⟩ := KP.out _ hb
        have hbz0 : w.heap.size + 1 < wr.heap.size := Nat.lt_of_lt_of_le hsz1 hb.size
        have hok := Aside0.mk (fun hq => pv_bad (own := own) (h := h) m1 m3 hq)
        have hgd := Aside0.mk (fun p hp hq => pv_good (h := h) (p := p) m1 m3 m2 hp hq)
        obtain ⟨x, hx⟩ : ∃ x, x = path[m]'m1 := ⟨_, rfl⟩
        obtain ⟨y, hy⟩ : ∃ y, y = own[m]'m2 := ⟨_, rfl⟩
        obtain ⟨ks, hks⟩ : ∃ ks, ks = kids[m]'m3 := ⟨_, rfl⟩
        rw [← hks] at g3 k60 hsx hok hgd d3
        rw [← hx] at d hok hgd
        rw [← hy] at d2 hso hgd
        have D1 := Aside0.mk d
        have D3 := Aside0.mk d3
        have D2 := Aside0.mk (fun w' (h : Below wr.heap.size wr w') => (h.cell (p := ⟨b2, o2 + m, none⟩) hbl2).trans d2)
        have E1 := later_cell d hbl
        have E3 := later_cell d3 hbl3
        have E4 := later_cell p1 hbz0
        have i1 : (m : Int) < (path.length : Int) := by omega
        have i2 : (m : Int) < (own.length : Int) := by omega
        have i3 : (m : Int) < (kids.length : Int) := by omega
        have i5 : IntKind.i64.wrap ((ks.length : Int) - 1) = (ks.length : Int) - 1 := by rw [IntKind.wrap_i64]; omega
        clear hx hy hks hk hsk hl1 hl2
        cases hq : (decide (0 ≤ x) && decide (x ≤ (ks.length : Int) - 1)) with
        | false =>
          have hfin := Aside0.mk (show R = false by rw [ha.out, hok.out hq]; rfl)
          have HI := Aside0.mk (fun W => l1InB x 0 ((ks.length : Int) - 1) W)
          rw [hq] at HI
          clear hq ha g3
          go_wp2_with fail
          refine wp_region_later (by kernel_rfl) (by kernel_rfl) ?_
          repeat (go_big_quiet_step ((go_at_call 100; exact later_call (HI.out _))))
          refine wpQuiet_nil ?_
          rintro _ ⟨⟨w4, hb4⟩, rfl⟩
          go_wp2
          go_ret
          exact ⟨by rw [hfin.out]; rfl, below_then HB (below_then hb hb4)⟩
        | true =>
          obtain ⟨p, rfl, hpl⟩ := in_nat hq
          have hnx := Aside0.mk (ha.out.trans (congrArg (pvEnd sum) (hgd.out p rfl hq)))
          have HI := Aside0.mk (fun W => l1InB (p : Int) 0 ((ks.length : Int) - 1) W)
          rw [hq] at HI
          obtain ⟨b4, o4, hA, _⟩ := int_at g3 p hpl
          subst hA
          have Hg3 := Aside0.mk g3
          clear hq ha g3
          go_wp2_with fail
          refine wp_region_later (by kernel_rfl) (by kernel_rfl) ?_
          repeat (go_big_quiet_step ((go_at_call 100; exact later_call (HI.out _))))
          refine wpQuiet_nil ?_
          rintro w4 ⟨⟨_, hb4⟩, rfl⟩
          have hb04 := below_then hb hb4
          clear p0 p1 d d2 d3 E1 E3 E4
          obtain ⟨p0, p1⟩ := KP.out _ hb04
          have d := (hb4.cell (p := ⟨b, o + m, none⟩) hbl).trans D1.out
          have d3 := (hb4.cell (p := ⟨b3, o3 + m, none⟩) hbl3).trans D3.out
          have z1 : w.heap.size + 1 < w4.heap.size := Nat.lt_of_lt_of_le hbz0 hb4.size
          have z3 : b3 < w4.heap.size := Nat.lt_of_lt_of_le hbl3 hb4.size
          have hown0 := Aside0.mk (World.ownsRow_made (e := 3) (size := 1) w4 #[] 0 (Nat.le_refl _) (Nat.zero_le _) (by simp))
          have hnews := Aside0.mk (ints_news (Hg3.out.below hb4))
          have hone := Aside0.mk (ints_one ks)
          go_wp2_with (at_builtin; refine wpList_append_own _ rfl _ _ 53 rfl w4.heap.size 3 ii (.int .i64 0) 1 _ Tryz.underlying53 hii hz0 hz1 rfl rfl (by decide) _ _ _ rfl hown0.out ⟨b4, o4, none⟩ ks.length c3 (ks.map (Value.int .i64)) rfl ?qc1 ?qc2 ?qc3 ?qc4 ?qc5 ?qc6 ?_)
          case qc1 => rw [List.length_map, Nat.mul_one]
          case qc2 => exact fun j u hj => Lib.cell?_alloc_some _ (hnews.out j u hj)
          case qc3 => exact hone.out
          case qc4 => unfold maxLen; omega
          case qc5 => rw [Hz2.out, Nat.zero_add]; omega
          case qc6 => simp
          intro v' w3 hown hgrow hnil
          try rw [Nat.zero_add] at hown
          try rw [List.nil_append] at hown
          have hb43 : Below w4.heap.size w4 w3 := ((Below.refl _ w4).alloc (Nat.le_refl _) _).grown hgrow (by simp) (by intro k hk; simp [Value.ownBlock] at hk; omega)
          have hb3 := below_then hb4 hb43
          have hb03 := below_then hb hb3
          have hown := Aside0.mk hown
          clear hgrow hnil p0 p1 d d3
          obtain ⟨p0, p1⟩ := KP.out _ hb03
          have d := (hb3.cell (p := ⟨b, o + m, none⟩) hbl).trans D1.out
          obtain ⟨g, cap, he, hbg, hgl⟩ := own_some hown.out (by omega)
          subst he
          have hbg := Nat.le_trans hb4.size hbg
          have hcl := hown.out.cellAt p (by omega)
          have hx : p < (ks.map (Value.int .i64)).length := by rw [List.length_map]; exact hpl
          rw [List.getElem?_eq_getElem hx] at hcl
          have hfr := hown.out.frozenAt p
          have hst := Aside0.mk (hown.out.stored p (.int .i64 (h : Int)))
          have i4 : (p : Int) < (ks.length : Int) := by omega
          go_upto_region 11 with fail
          have hst1 := hst.out.1
          rw [show (ks.map (Value.int .i64)).set p (.int .i64 (h : Int)) = (ks.set p (h : Int)).map (Value.int .i64) by rw [List.map_set]] at hst1
          have hrow := Aside0.mk (ints_row (v := .int .i64 0) hst1 (by rw [List.length_set]))
          have hb5 : Below W.heap.size W (w3.setCell ⟨g, p, none⟩ (.int .i64 (h : Int))) := below_setNew hb03 (Nat.le_trans hb.size hbg)
          have hne2 : (w3.setCell ⟨g, p, none⟩ (.int .i64 (h : Int))).cell? ⟨b2, o2 + m, none⟩ = some (.int .i64 y) := D2.out _ (below_setNew hb3 hbg)
          have hne3 : (w3.setCell ⟨g, p, none⟩ (.int .i64 (h : Int))).cell? ⟨w.heap.size + 1, 0, none⟩ = some (.slice (some ⟨b2, o2, none⟩) own.length c) := (KP.out _ hb5).1
          obtain ⟨w5, hw5⟩ : ∃ w5, w5 = w3.setCell ⟨g, p, none⟩ (.int .i64 (h : Int)) := ⟨_, rfl⟩
          rw [← hw5] at hrow hb5 hne2 hne3 ⊢
          clear hw5 hst hst1 hcl hfr d p0 p1
          go_wp2_with fail
          refine (specFoldI_calls y _ _ _ (ks.set p (h : Int)) w5 (by rw [List.length_set]) hso.out (set_sum hsx.out hlt) hrow.out).mono ?_
          rintro e w6 ⟨rfl, rfl⟩
          have hlt2 := foldH_lt y.toNat ((ks.set p (h : Int)).map Int.toNat) (sumB_nat hso.out).2
          obtain ⟨h2, hh2⟩ : ∃ h2, h2 = foldH y.toNat ((ks.set p (h : Int)).map Int.toNat) := ⟨_, rfl⟩
          rw [← hh2] at hnx hlt2 ⊢
          clear hlt hne2 hne3 hh2
          go_wp2
          go_roundg m
          case measure => omega
          case rel => exact ⟨_, (m : Int) - 1, rfl, by go_num, rfl, by omega, hlt2, hnx.out, hb5⟩
end Go.Proofs.YtdggfnpioljcbaaGreatDoor
