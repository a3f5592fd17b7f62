/- FnExactMarkAt's own body. -/
import Derived.Test.YtmfkdgdamepbcaaGreatDoorMarkT
import Derived.Test.YtmfkdgdamepbcaaGreatDoorMkI
namespace Go.Proofs.YtmfkdgdamepbcaaGreatDoor
open Go.RowKit Go.Lib
set_option linter.unusedVariables false
set_option linter.unusedSimpArgs false
set_option maxHeartbeats 0
set_option maxRecDepth 100000
/-- The flat cells of pairs. -/
theorem own_flat {e : TypeId} {w : World} {base : Nat} {ok : Nat → Prop} {v : Value} {xs : List Dcl} (h : Own Kd.dcl e w base ok v xs) : ∃ cells, w.ownsRow base e 2 v xs.length cells ∧ ∀ (w' : World) (ok' : Nat → Prop), Says Kd.dcl w' ok' xs cells := by
  obtain ⟨cells, ho, hl, hs⟩ := h
  exact ⟨cells, ho, fun w' ok' => ⟨hl, fun i hi => hs i hi⟩⟩
theorem own_base {size n base b2 : Nat} {e : TypeId} {v : Value} {cells : List Value} {w : World} (h : w.ownsRow base e size v n cells) (hb : ∀ k, v.ownBlock = some k → b2 ≤ k) : w.ownsRow b2 e size v n cells := by
  obtain ⟨hcl, hh⟩ := h
  refine ⟨hcl, ?_⟩
  rcases hh with hh | ⟨g, cap, cur, rfl, hb', hh, hl⟩
  · exact .inl hh
  · exact .inr ⟨g, cap, cur, rfl, hb g rfl, hh, hl⟩
theorem row_pairs {e : TypeId} {w : World} {base : Nat} {A : Option Addr} {c : Nat} {xs : List Dcl} {cells : List Value} (ho : w.ownsRow base e 2 (.slice A xs.length c) xs.length cells) (hs : ∀ (w' : World) (ok' : Nat → Prop), Says Kd.dcl w' ok' xs cells) : Row Kd.dcl w (fun _ => True) A xs := by
  obtain ⟨A', c', he, _, hr⟩ := Own.row (d := Kd.dcl) (ok := fun _ => True) ⟨cells, ho, hs _ _⟩ (ok' := fun _ => True) (fun _ _ => trivial) (fun _ _ => trivial)
  injection he with e1 _ _
  rw [e1]; exact hr
/-- What is kept through the law: two boxed marks and their rows. -/
structure St (w cur : World) (b8 b12 : Nat) (m : Mk) (A0 Ag : Option Addr) (c0 cg : Nat) (B0 Bg : Nat) (cells0 cellsg : List Value) : Prop where
  hb : Below w.heap.size w cur
  h8 : cur.heap[b8]? = some (.cells #[.int .i64 m.kind, .string m.name, .slice A0 m.raws.length c0, .bool m.empty, .string m.text] 29 (0, 0))
  h12 : cur.heap[b12]? = some (.cells #[.int .i64 m.kind, .string m.name, .slice Ag m.raws.length cg, .bool m.empty, .string m.text] 29 (0, 0))
  o0 : cur.ownsRow B0 33 2 (.slice A0 m.raws.length c0) m.raws.length cells0
  og : cur.ownsRow Bg 33 2 (.slice Ag m.raws.length cg) m.raws.length cellsg
namespace St
variable {w cur w1 : World} {b8 b12 : Nat} {m : Mk} {A0 Ag : Option Addr} {c0 cg B0 Bg : Nat} {cells0 cellsg : List Value}
theorem below (h : St w cur b8 b12 m A0 Ag c0 cg B0 Bg cells0 cellsg) (hb : Below cur.heap.size cur w1) : St w w1 b8 b12 m A0 Ag c0 cg B0 Bg cells0 cellsg :=
  ⟨below_then h.hb hb, (hb.block _ (Array.getElem?_eq_some_iff.1 h.h8).1).trans h.h8, (hb.block _ (Array.getElem?_eq_some_iff.1 h.h12).1).trans h.h12, own_below h.o0 hb, own_below h.og hb⟩
theorem grown {ob : Option Nat} (h : St w cur b8 b12 m A0 Ag c0 cg B0 Bg cells0 cellsg) (hg : cur.grownBy w1 ob) (hw : ∀ k, ob = some k → w.heap.size ≤ k) (h8 : ¬ ob = some b8) (h12 : ¬ ob = some b12)
    (hn0 : ∀ k, (Value.slice A0 m.raws.length c0).ownBlock = some k → ¬ ob = some k) (hng : ∀ k, (Value.slice Ag m.raws.length cg).ownBlock = some k → ¬ ob = some k) : St w w1 b8 b12 m A0 Ag c0 cg B0 Bg cells0 cellsg :=
  ⟨⟨hg.os.trans h.hb.os, hg.tape.trans h.hb.tape, hg.output.trans h.hb.output, Nat.le_trans h.hb.size hg.size, fun k hk => (hg.block k (Nat.lt_of_lt_of_le hk h.hb.size) (fun e => by have := hw k e.symm; omega)).trans (h.hb.block k hk)⟩,
    (hg.block _ (Array.getElem?_eq_some_iff.1 h.h8).1 (fun e => h8 e.symm)).trans h.h8, (hg.block _ (Array.getElem?_eq_some_iff.1 h.h12).1 (fun e => h12 e.symm)).trans h.h12, own_grown h.o0 hg hn0, own_grown h.og hg hng⟩
/-- The second mark's row is marked. -/
theorem marked {cells1 : List Value} (h : St w cur b8 b12 m A0 Ag c0 cg B0 Bg cells0 cellsg) (hg : cur.grownBy w1 (Value.slice Ag m.raws.length cg).ownBlock) (ho : w1.ownsRow Bg 33 2 (.slice Ag m.raws.length cg) m.raws.length cells1)
    (hw : ∀ k, (Value.slice Ag m.raws.length cg).ownBlock = some k → w.heap.size ≤ k) (h8 : ¬ (Value.slice Ag m.raws.length cg).ownBlock = some b8) (h12 : ¬ (Value.slice Ag m.raws.length cg).ownBlock = some b12)
    (hn0 : ∀ k, (Value.slice A0 m.raws.length c0).ownBlock = some k → ¬ (Value.slice Ag m.raws.length cg).ownBlock = some k) : St w w1 b8 b12 m A0 Ag c0 cg B0 Bg cells0 cells1 :=
  ⟨⟨hg.os.trans h.hb.os, hg.tape.trans h.hb.tape, hg.output.trans h.hb.output, Nat.le_trans h.hb.size hg.size, fun k hk => (hg.block k (Nat.lt_of_lt_of_le hk h.hb.size) (fun e => by have := hw k e.symm; omega)).trans (h.hb.block k hk)⟩,
    (hg.block _ (Array.getElem?_eq_some_iff.1 h.h8).1 (fun e => h8 e.symm)).trans h.h8, (hg.block _ (Array.getElem?_eq_some_iff.1 h.h12).1 (fun e => h12 e.symm)).trans h.h12, own_grown h.o0 hg hn0, ho⟩
end St
theorem markAt_law {o1 : Nat → Prop} (s : ByteArray) (a : Int) (A : Option Addr) (c : Nat) (xs : List Dcl) (w : World) (ha0 : -9223372036854775808 ≤ a) (ha1 : a ≤ 9223372036854775807) (hss : s.size ≤ 9223372036854775807) (hf : ∀ d ∈ xs, d.fit) (hr : Row Kd.dcl w o1 A xs) (hE : Env w) :
    Calls Tryz.prog 4 #[.string s, .int .i64 a, .slice A xs.length c] w fun e w' => e = .returned (.bool true) ∧ Below w.heap.size w w' := by
  have hmax := hr.max
  by_cases hsm : s.size ≤ 1048576
  case neg =>
    go_enter Tryz.func4, Tryz.ntmps4
    go_wp2
    go_ret
    exact ⟨rfl, Below.refl _ _⟩
  have HS := Aside0.mk (szEntS_calls A c xs 1048576 w (by omega) (by omega) hf hr)
  have hszv := szV_cases 1048576 (xs.length + sumOf Dcl.wt xs)
  obtain ⟨r, hre⟩ : ∃ r, r = szV 1048576 (xs.length + sumOf Dcl.wt xs) := ⟨_, rfl⟩
  rw [← hre] at HS hszv
  rcases hszv with ⟨hr1, hle⟩ | ⟨hr1, hle⟩
  case inr =>
    subst hr1
    clear hre
    go_enter Tryz.func4, Tryz.ntmps4
    go_wp2_with fail
    refine (HS.out).mono ?_
    rintro e w1 ⟨rfl, hb1⟩
    go_wp2
    go_ret
    exact ⟨rfl, hb1⟩
  have hxl : xs.length ≤ 1048576 := by omega
  have hr0 : ¬ r < 0 := by omega
  have hz : ∀ d ∈ xs, d.pre.size ≤ 1048576 ∧ d.uri.size ≤ 1048576 := fun d hd => by
    have := sumOf_mem Dcl.wt xs d hd
    have e : d.wt = d.pre.size + d.uri.size := rfl
    omega
  have HT := Aside0.mk (fun W1 (hb : Below w.heap.size w W1) => toEntS_calls A xs c W1 (hr.below hb) hxl)
  obtain ⟨R, hR⟩ : ∃ R, R = markO s a xs := ⟨_, rfl⟩
  have HSp := Aside0.mk (fun A' c' W1 (h : Row Kd.dcl W1 (fun _ => True) A' xs) => specMarkAt_calls s a A' c' xs W1 h (by omega) ha0 ha1 hz)
  have HIm := Aside0.mk (fun A' c' W1 (h : Row Kd.dcl W1 (fun _ => True) A' xs) (hE : Env W1) => implMarkAt_calls s a A' c' xs W1 h (by omega) ha0 ha1 hz hE)
  rw [← hR] at HSp HIm
  have HE := Aside0.mk (fun W1 (hb : Below w.heap.size w W1) => hE.below hb)
  obtain ⟨m, hm⟩ : ∃ m, m = maM R := ⟨_, rfl⟩
  have hraw : m.raws.length ≤ 100000000 := by
    rw [hm]
    cases e : R with
    | none => exact Nat.zero_le _
    | some q => have := mark_raws (hR.symm.trans e); show q.1.raws.length ≤ _; omega
  have HV := Aside0.mk (fun rv => show maV R rv = .tuple #[mkV m rv, .int .i64 (maK R), .bool R.isSome] by rw [hm]; rfl)
  obtain ⟨k0, hk0⟩ : ∃ k0, k0 = maK R := ⟨_, rfl⟩
  obtain ⟨q0, hq0⟩ : ∃ q0, q0 = R.isSome := ⟨_, rfl⟩
  rw [← hk0, ← hq0] at HV
  have HMm := Aside0.mk hm
  clear hm hR hk0 hq0 hr hf hE hz hre hr1 hle
  have hkk : (k0 != k0) = false := by simp
  have hqq : (q0 != q0) = false := by simp
  go_enter Tryz.func4, Tryz.ntmps4
  go_wp2_with fail
  refine (HS.out).mono ?_
  rintro e w1 ⟨rfl, hb1⟩
  go_wp2_with fail
  refine (HT.out _ hb1).mono ?_
  rintro e w2 ⟨⟨X0, y0, rfl, ho2⟩, hb2⟩
  have hb2 := below_then hb1 hb2
  obtain ⟨cx0, hox0, hsx0⟩ := own_flat ho2
  have hrx0 := row_pairs hox0 hsx0
  go_wp2_with fail
  refine (HSp.out X0 y0 w2 hrx0).mono ?_
  rintro e w3 ⟨rv0, rfl, ⟨B0, hB0, hO3⟩, hb3⟩
  rw [HV.out]
  rw [← HMm.out] at hO3
  obtain ⟨A0, c0, rfl, _⟩ := Own.slice hO3
  have hb3 := below_then hb2 hb3
  obtain ⟨cells0, ho3, hs3⟩ := own_flat hO3
  simp only [mkV]
  have hb3b := hb3
  obtain ⟨W4, hW4, HB4, hsz4, HG4⟩ := boxed w3 #[.int .i64 m.kind, .string m.name, .slice A0 m.raws.length c0, .bool m.empty, .string m.text] 29
  have hb4 := below_then hb3 HB4
  have HW4 := Aside0.mk hW4
  have hl3 := Aside0.mk ho3.lt
  have ho4 := own_below ho3 HB4
  have hs4 : W4.heap.size = w3.heap.size + 1 := by rw [hW4]; exact Array.size_push _
  have HG4 := Aside0.mk HG4
  have hS4 := Aside0.mk hs4
  clear hW4 ho3 hox0 hsx0 hrx0 ho2 hO3 hs4 hB0
  go_upto_region 8 with fail
  rw [← HW4.out]
  go_wp2_with fail
  refine (HT.out _ hb4).mono ?_
  rintro e w5 ⟨⟨X2, y2, rfl, hx5⟩, hb5⟩
  have HG5 := (hb5.block _ hsz4).trans HG4.out
  have hSz3 := Aside0.mk (show w.heap.size ≤ W4.heap.size from hb4.size)
  have hSz35 := Aside0.mk (show w3.heap.size < w5.heap.size by have := hb5.size; have := hS4.out; omega)
  have hSz5 := Aside0.mk (show w.heap.size ≤ w5.heap.size from Nat.le_trans hb4.size hb5.size)
  have ho5 := own_below ho4 hb5
  have hb5 := below_then hb4 hb5
  obtain ⟨cx2, hox2, hsx2⟩ := own_flat hx5
  have hrx2 := row_pairs hox2 hsx2
  have hlx := Aside0.mk hox2.lt
  clear hx5 ho4
  go_wp2_with fail
  refine (HIm.out X2 y2 w5 hrx2 (HE.out _ hb5)).mono ?_
  rintro e w6 ⟨rvg, rfl, ⟨Bg, hBg, hO6⟩, hb6⟩
  rw [HV.out]
  rw [← HMm.out] at hO6
  obtain ⟨Ag, cg, rfl, _⟩ := Own.slice hO6
  obtain ⟨cellsg, ho6, hs6⟩ := own_flat hO6
  simp only [mkV]
  have hlg := Aside0.mk ho6.lt
  have HBg := Aside0.mk hBg
  have hz56 := Aside0.mk hb6.size
  obtain ⟨W7, hW7, HB7, hsz7, HG7⟩ := boxed w6 #[.int .i64 m.kind, .string m.name, .slice Ag m.raws.length cg, .bool m.empty, .string m.text] 29
  have HW7 := Aside0.mk hW7
  have hox7 := own_below (own_below hox2 hb6) HB7
  have hS : St w W7 w3.heap.size w6.heap.size m A0 Ag c0 cg B0 Bg cells0 cellsg := ⟨below_then (below_then hb5 hb6) HB7, (HB7.block _ (Array.getElem?_eq_some_iff.1 ((hb6.block _ (Array.getElem?_eq_some_iff.1 HG5).1).trans HG5)).1).trans ((hb6.block _ (Array.getElem?_eq_some_iff.1 HG5).1).trans HG5), HG7, own_below (own_below ho5 hb6) HB7, own_below ho6 HB7⟩
  have hHs := Aside0.mk hs6
  have hHs3 := Aside0.mk hs3
  have hHx := Aside0.mk hsx2
  clear hW7 HB7 HG7 ho6 hO6 hb6 hrx2 hox2 ho5 HG5 hb5 hb4 hb3 hb3b HB4 hs6 hs3 hsx2 hBg hsz4 hsz7
  go_upto_region 10 with fail
  rw [← HW7.out]
  obtain ⟨e0, e1, e2, e3, e4, _⟩ := cells5 hS.h8
  obtain ⟨d0, d1, d2, d3, d4, _⟩ := cells5 hS.h12
  have HQ := Aside0.mk (eqMark_same m Ag A0 cg c0 W7 (row_pairs hS.og hHs.out) (row_pairs hS.o0 hHs3.out))
  simp only [mkV] at HQ
  go_wp2_with fail
  refine (HQ.out).mono ?_
  rintro e w8 ⟨rfl, hb8⟩
  clear e0 e1 e2 e3 e4 d0 d1 d2 d3 d4
  have hS := hS.below hb8
  have hox := own_below hox7 hb8
  clear hox7 hb8 HQ
  have HT9 := Aside0.mk (HT.out _ hS.hb)
  go_wp2_with fail
  refine (HT9.out).mono ?_
  rintro e w9 ⟨⟨X9, y9, rfl, hx9⟩, hb9⟩
  have hS := hS.below hb9
  have hox := own_below hox hb9
  obtain ⟨cx9, hox9, hsx9⟩ := own_flat hx9
  have HQ := Aside0.mk (eqEntS_same X2 X9 xs y2 y9 w9 (row_pairs hox hHx.out) (row_pairs hox9 hsx9))
  clear hx9 hb9 hox9 hsx9 HT9
  go_wp2_with fail
  refine (HQ.out).mono ?_
  rintro e w10 ⟨rfl, hb10⟩
  have hS := hS.below hb10
  have hox := own_below hox hb10
  have HMk := Aside0.mk (markEntS_calls X2 xs.length y2 _ 1 _ _ hox (by omega) (by omega))
  rw [show ((1 : Nat) : Int) = 1 from rfl] at HMk
  clear hb10 HQ
  go_wp2_with fail
  refine (HMk.out).mono ?_
  rintro e w11 ⟨rfl, _, hg11⟩
  have hS := hS.grown hg11 (fun k hk => by have := (hlx.out k hk).1; have := hS4.out; have := hSz3.out; omega) (fun e => by have := (hlx.out _ e).1; have := hS4.out; omega) (fun e => by have := (hlx.out _ e).2; have := hz56.out; omega)
    (fun k hk e => by have := (hl3.out k hk).2; have := (hlx.out k e).1; have := hS4.out; omega) (fun k hk e => by have := (hlg.out k hk).1; have := (hlx.out k e).2; have := HBg.out; omega)
  clear hox hg11 HMk
  have hmk : ¬ (((1 + xs.length * 2 : Nat) : Int) < 0) := by omega
  obtain ⟨e0, e1, e2, e3, e4, _⟩ := cells5 hS.h8
  obtain ⟨d0, d1, d2, d3, d4, _⟩ := cells5 hS.h12
  have HQ := Aside0.mk (eqMark_same m Ag A0 cg c0 _ (row_pairs hS.og hHs.out) (row_pairs hS.o0 hHs3.out))
  simp only [mkV] at HQ
  go_wp2_with fail
  refine (HQ.out).mono ?_
  rintro e w12 ⟨rfl, hb12⟩
  clear e0 e1 e2 e3 e4 d0 d1 d2 d3 d4 HQ hmk
  have hS := hS.below hb12
  obtain ⟨d0, d1, d2, d3, d4, _⟩ := cells5 hS.h12
  have HMk := Aside0.mk (markMark_calls m.kind m.name Ag m.raws.length cg m.empty m.text _ 1 _ _ hS.og (by omega) (by omega))
  rw [show ((1 : Nat) : Int) = 1 from rfl] at HMk
  clear hb12
  go_wp2_with fail
  refine (HMk.out).mono ?_
  rintro e w13 ⟨rfl, ho13, hg13⟩
  clear d0 d1 d2 d3 d4 HMk
  have hS := hS.marked hg13 ho13 (fun k hk => by have := (hlg.out k hk).1; have := HBg.out; have := hSz5.out; omega) (fun e => by have := (hlg.out _ e).1; have := HBg.out; have := hSz35.out; omega) (fun e => by have := (hlg.out _ e).2; omega)
    (fun k hk e => by have := (hl3.out k hk).2; have := (hlg.out k e).1; have := HBg.out; have := hSz35.out; omega)
  clear hg13 ho13
  obtain ⟨d0, d1, d2, d3, d4, _⟩ := cells5 hS.h12
  have HHd := Aside0.mk (heldMark_calls m.kind m.name Ag m.raws.length cg m.empty m.text 1 _ _ hS.og (by omega) (by omega))
  rw [show ((1 : Nat) : Int) = 1 from rfl] at HHd
  have hmk : ¬ (((1 + m.raws.length * 2 : Nat) : Int) < 0) := by omega
  have hmn : (((1 + m.raws.length * 2 : Nat) : Int) != ((1 + m.raws.length * 2 : Nat) : Int)) = false := by simp
  go_wp2_with fail
  refine (HHd.out).mono ?_
  rintro e w14 ⟨rfl, hb14⟩
  clear d0 d1 d2 d3 d4 HHd
  have hS := hS.below hb14
  clear hb14
  go_wp2_with fail
  refine (HT.out _ hS.hb).mono ?_
  rintro e w15 ⟨⟨X15, y15, rfl, hx15⟩, hb15⟩
  have hS := hS.below hb15
  obtain ⟨cx15, hox15, hsx15⟩ := own_flat hx15
  have hrx15 := row_pairs hox15 hsx15
  clear hx15 hox15 hsx15 hb15 hmk hmn
  go_wp2_with fail
  refine (HIm.out X15 y15 w15 hrx15 (HE.out _ hS.hb)).mono ?_
  rintro e w16 ⟨rvh, rfl, ⟨Bh, hBh, hO16⟩, hb16⟩
  rw [HV.out]
  rw [← HMm.out] at hO16
  obtain ⟨Ah, ch, rfl, _⟩ := Own.slice hO16
  obtain ⟨cellsh, ho16, hs16⟩ := own_flat hO16
  simp only [mkV]
  have hS := hS.below hb16
  obtain ⟨W17, hW17, HB17, hsz17, HG17⟩ := boxed w16 #[.int .i64 m.kind, .string m.name, .slice Ah m.raws.length ch, .bool m.empty, .string m.text] 29
  have HW17 := Aside0.mk hW17
  have hS := hS.below HB17
  have ho17 := own_below ho16 HB17
  clear hW17 HB17 ho16 hO16 hb16 hrx15 hBh
  go_upto_region 27 with fail
  rw [← HW17.out]
  obtain ⟨e0, e1, e2, e3, e4, _⟩ := cells5 hS.h8
  obtain ⟨d0, d1, d2, d3, d4, _⟩ := cells5 HG17
  have HQ := Aside0.mk (eqMark_same m Ah A0 ch c0 _ (row_pairs ho17 hs16) (row_pairs hS.o0 hHs3.out))
  simp only [mkV] at HQ
  clear ho17 hs16 HG17 hsz17
  go_wp2_with fail
  refine (HQ.out).mono ?_
  rintro e w18 ⟨rfl, hb18⟩
  clear e0 e1 e2 e3 e4 d0 d1 d2 d3 d4 HQ
  have hS := hS.below hb18
  clear hb18
  obtain ⟨d0, d1, d2, d3, d4, _⟩ := cells5 hS.h12
  have HHd := Aside0.mk (heldMark_calls m.kind m.name Ag m.raws.length cg m.empty m.text 1 _ _ hS.og (by omega) (by omega))
  rw [show ((1 : Nat) : Int) = 1 from rfl] at HHd
  have hmk : ¬ (((1 + m.raws.length * 2 : Nat) : Int) < 0) := by omega
  have hmn : (((1 + m.raws.length * 2 : Nat) : Int) != ((1 + m.raws.length * 2 : Nat) : Int)) = false := by simp
  go_wp2_with fail
  refine (HHd.out).mono ?_
  rintro e w19 ⟨rfl, hb14⟩
  clear d0 d1 d2 d3 d4 HHd
  have hS := hS.below hb14
  clear hb14
  go_wp2
  go_ret
  exact ⟨rfl, hS.hb⟩
end Go.Proofs.YtmfkdgdamepbcaaGreatDoor
