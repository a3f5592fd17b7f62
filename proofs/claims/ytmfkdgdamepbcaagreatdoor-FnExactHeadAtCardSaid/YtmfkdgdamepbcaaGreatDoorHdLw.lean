/- Joined: HdW, HdLaw. -/
import Derived.Test.YtmfkdgdamepbcaaGreatDoorHdN
import Derived.Test.YtmfkdgdamepbcaaGreatDoorHdD
import Derived.Test.YtmfkdgdamepbcaaGreatDoorHdF
import Derived.Test.YtmfkdgdamepbcaaGreatDoorEnvF
import Derived.Test.YtmfkdgdamepbcaaGreatDoorHdFacts
import Derived.Test.YtmfkdgdamepbcaaGreatDoorRows
import Derived.Test.YtmfkdgdamepbcaaGreatDoorTie
import Derived.Test.YtmfkdgdamepbcaaGreatDoorCards
import Derived.WalkKit
import Derived.ProofKit
import Derived.OpenShut
import Derived.ShutString
import Derived.ChangeOld
import Derived.SizedLaws
import Derived.Deep.DeepHandedRow
import Derived.Lib.LaidTab
import Derived.Lay
import Derived.Stop.LaidErr
section
/- FnExactHeadAt's own body. -/
namespace Go.Proofs.YtmfkdgdamepbcaaGreatDoor
open Go.RowKit Go.Lib
set_option linter.unusedVariables false
set_option linter.unusedSimpArgs false
set_option maxHeartbeats 0
set_option maxRecDepth 100000
/-- What is kept through the law: two boxed heads and their rows. -/
structure StH (w cur : World) (b5 b8 : Nat) (n : ByteArray) (ne nd : Nat) (A0 D0 Ag Dg : Option Addr) (c0 d0 cg dg : Nat) (B0 Bg : Nat) (E0 F0 Eg Fg : List Value) : Prop where
  hb : Below w.heap.size w cur
  h5 : cur.heap[b5]? = some (.cells #[.string n, .slice A0 ne c0, .slice D0 nd d0] 48 (0, 0))
  h8 : cur.heap[b8]? = some (.cells #[.string n, .slice Ag ne cg, .slice Dg nd dg] 48 (0, 0))
  e0 : cur.ownsRow B0 57 2 (.slice A0 ne c0) ne E0
  f0 : cur.ownsRow B0 54 5 (.slice D0 nd d0) nd F0
  eg : cur.ownsRow Bg 57 2 (.slice Ag ne cg) ne Eg
  fg : cur.ownsRow Bg 54 5 (.slice Dg nd dg) nd Fg
namespace StH
variable {w cur w1 : World} {b5 b8 : Nat} {n : ByteArray} {ne nd : Nat} {A0 D0 Ag Dg : Option Addr} {c0 d0 cg dg : Nat} {B0 Bg : Nat} {E0 F0 Eg Fg E1 F1 : List Value}
theorem below (h : StH w cur b5 b8 n ne nd A0 D0 Ag Dg c0 d0 cg dg B0 Bg E0 F0 Eg Fg) (hb : Below cur.heap.size cur w1) : StH w w1 b5 b8 n ne nd A0 D0 Ag Dg c0 d0 cg dg B0 Bg E0 F0 Eg Fg :=
  ⟨below_then h.hb hb, (hb.block _ (Array.getElem?_eq_some_iff.1 h.h5).1).trans h.h5, (hb.block _ (Array.getElem?_eq_some_iff.1 h.h8).1).trans h.h8, own_below h.e0 hb, own_below h.f0 hb, own_below h.eg hb, own_below h.fg hb⟩
/-- The second head's rows are marked: only blocks from Bg on, but b8. -/
theorem marked (h : StH w cur b5 b8 n ne nd A0 D0 Ag Dg c0 d0 cg dg B0 Bg E0 F0 Eg Fg) (hg : Two (Value.slice Ag ne cg).ownBlock (Value.slice Dg nd dg).ownBlock cur w1) (hE : w1.ownsRow Bg 57 2 (.slice Ag ne cg) ne E1) (hF : w1.ownsRow Bg 54 5 (.slice Dg nd dg) nd F1)
    (h5 : b5 < Bg) (hw : w.heap.size ≤ Bg) (h8 : ∀ k, ((Value.slice Ag ne cg).ownBlock = some k ∨ (Value.slice Dg nd dg).ownBlock = some k) → k < b8) (hlow : ∀ k, ((Value.slice A0 ne c0).ownBlock = some k ∨ (Value.slice D0 nd d0).ownBlock = some k) → k < Bg) :
    StH w w1 b5 b8 n ne nd A0 D0 Ag Dg c0 d0 cg dg B0 Bg E0 F0 E1 F1 := by
  have hlt : ∀ k, ((Value.slice Ag ne cg).ownBlock = some k ∨ (Value.slice Dg nd dg).ownBlock = some k) → Bg ≤ k := fun k hk => hk.elim (fun e => (h.eg.lt k e).1) (fun e => (h.fg.lt k e).1)
  have hold : ∀ k, k < cur.heap.size → (k < Bg ∨ k = b8) → w1.heap[k]? = cur.heap[k]? := fun k hk hor => by
    refine hg.block k hk (fun e => ?_) (fun e => ?_)
    · have h1 := hlt k (.inl e)
      have h2 := h8 k (.inl e)
      omega
    · have h1 := hlt k (.inr e)
      have h2 := h8 k (.inr e)
      omega
  have l5 := (Array.getElem?_eq_some_iff.1 h.h5).1
  have l8 := (Array.getElem?_eq_some_iff.1 h.h8).1
  refine ⟨⟨hg.os.trans h.hb.os, hg.tape.trans h.hb.tape, hg.output.trans h.hb.output, Nat.le_trans h.hb.size hg.size, fun k hk => (hold k (Nat.lt_of_lt_of_le hk h.hb.size) (.inl (by omega))).trans (h.hb.block k hk)⟩, (hold b5 l5 (.inl h5)).trans h.h5, (hold b8 l8 (.inr rfl)).trans h.h8, ?_, ?_, hE, hF⟩
  · exact own_old h.e0 (fun k hk hl => hold k hl (.inl (hlow k (.inl hk))))
  · exact own_old h.f0 (fun k hk hl => hold k hl (.inl (hlow k (.inr hk))))
end StH
theorem headAt_law (s : ByteArray) (a : Int) (w : World) (ha0 : -9223372036854775808 ≤ a) (ha1 : a ≤ 9223372036854775807) (hss : s.size ≤ 9223372036854775807) (hE : Env w) :
    Calls Tryz.prog 6 #[.string s, .int .i64 a] w fun e w' => e = .returned (.bool true) ∧ Below w.heap.size w w' := by
  by_cases hsm : s.size ≤ 1048576
  case neg =>
    go_enter Tryz.func6, Tryz.ntmps6
    go_wp2
    go_ret
    exact ⟨rfl, Below.refl _ _⟩
  have hlen := hdM_len (s := s) (a := a)
  obtain ⟨R, hR⟩ : ∃ R, R = headO s a := ⟨_, rfl⟩
  have HSp := Aside0.mk (fun W => (specHeadAt_calls s a W hsm ha0 ha1).mono (fun _ _ h => hdOut_is h))
  have HIm := Aside0.mk (fun W (hE : Env W) => (implHeadAt_calls s a W hsm ha0 ha1 hE).mono (fun _ _ h => hdOut_is h))
  rw [← hR] at HSp HIm hlen
  have HE := Aside0.mk (fun W1 (hb : Below w.heap.size w W1) => hE.below hb)
  obtain ⟨m, hm⟩ : ∃ m, m = hdM R := ⟨_, rfl⟩
  obtain ⟨k0, hk0⟩ : ∃ k0, k0 = hdK R := ⟨_, rfl⟩
  obtain ⟨q0, hq0⟩ : ∃ q0, q0 = R.isSome := ⟨_, rfl⟩
  rw [← hm] at HSp HIm hlen
  rw [← hk0, ← hq0] at HSp HIm
  clear hm hR hk0 hq0 hE
  obtain ⟨n, es, ds⟩ := m
  dsimp only at HSp HIm hlen
  obtain ⟨hle, hld⟩ := hlen
  have hkk : (k0 != k0) = false := by simp
  have hqq : (q0 != q0) = false := by simp
  go_enter Tryz.func6, Tryz.ntmps6
  go_wp2_with fail
  refine (HSp.out w).mono ?_
  rintro e w3 ⟨A0, D0, c0, d0, B0, rfl, hB0, hE0, hF0, hne0, hb3⟩
  obtain ⟨W4, hW4, HB4, hsz4, HG4⟩ := boxed w3 #[.string n, .slice A0 es.length c0, .slice D0 ds.length d0] 48
  have hb4 := below_then hb3 HB4
  have hs4 : W4.heap.size = w3.heap.size + 1 := by rw [hW4]; exact Array.size_push _
  have hlE := hE0.lt
  have hlF := hF0.lt
  have hE4 := own_below hE0 HB4
  have hF4 := own_below hF0 HB4
  have HW4 := Aside0.mk hW4
  clear hW4 HB4 hE0 hF0 hne0
  go_upto_region 4 with fail
  rw [← HW4.out]
  go_wp2_with fail
  refine (HIm.out W4 (HE.out _ hb4)).mono ?_
  rintro e w6 ⟨Ag, Dg, cg, dg, Bg, rfl, hBg, hEg, hFg, hneg, hb6⟩
  obtain ⟨W7, hW7, HB7, hsz7, HG7⟩ := boxed w6 #[.string n, .slice Ag es.length cg, .slice Dg ds.length dg] 48
  have hb67 := below_then hb6 HB7
  have hS : StH w W7 w3.heap.size w6.heap.size n es.length ds.length A0 D0 Ag Dg c0 d0 cg dg B0 Bg _ _ _ _ := ⟨below_then hb4 hb67, (hb67.block _ hsz4).trans HG4, HG7, own_below hE4 hb67, own_below hF4 hb67, own_below hEg HB7, own_below hFg HB7⟩
  have hlow := Aside0.mk (show ∀ k, ((Value.slice A0 es.length c0).ownBlock = some k ∨ (Value.slice D0 ds.length d0).ownBlock = some k) → k < Bg from fun k hk => by
    rcases hk with e | e
    · have := (hlE k e).2; omega
    · have := (hlF k e).2; omega)
  have hh8 := Aside0.mk (show ∀ k, ((Value.slice Ag es.length cg).ownBlock = some k ∨ (Value.slice Dg ds.length dg).ownBlock = some k) → k < w6.heap.size from fun k hk => hk.elim (fun e => (hEg.lt k e).2) (fun e => (hFg.lt k e).2))
  have hw5 := Aside0.mk (show w3.heap.size < Bg ∧ w.heap.size ≤ Bg by have := hb3.size; omega)
  have hneg := Aside0.mk hneg
  have HW7 := Aside0.mk hW7
  clear hW7 HB7 HG7 hEg hFg hE4 hF4 hlE hlF hb6 hb67 hb3 hb4 HG4 hsz4 hsz7 hB0 hBg hs4
  go_upto_region 5 with fail
  rw [← HW7.out]
  obtain ⟨e0, e1, e2, _⟩ := cells3 hS.h5
  obtain ⟨p0, p1, p2, _⟩ := cells3 hS.h8
  have HQ := Aside0.mk (by
    obtain ⟨_, _, ha, _, r1⟩ := ents_row hS.eg
    obtain ⟨_, _, hb, _, r2⟩ := ents_row hS.e0
    obtain ⟨_, _, hc, _, r3⟩ := defs_row hS.fg
    obtain ⟨_, _, hd, _, r4⟩ := defs_row hS.f0
    cases ha; cases hb; cases hc; cases hd
    exact eqHead_same n Ag A0 Dg D0 es ds cg c0 dg d0 W7 r1 r2 r3 r4)
  go_wp2_with fail
  refine (HQ.out).mono ?_
  rintro e w8 ⟨rfl, hb8⟩
  clear e0 e1 e2 p0 p1 p2 HQ
  replace hS := hS.below hb8
  clear hb8
  obtain ⟨p0, p1, p2, _⟩ := cells3 hS.h8
  have HMk := Aside0.mk (markHead_calls n Ag Dg es.length ds.length cg dg _ _ Bg _ hS.eg hS.fg hneg.out hle hld)
  go_wp2_with fail
  refine (HMk.out).mono ?_
  rintro e w9 ⟨rfl, hE9, hF9, hT9⟩
  clear p0 p1 p2 HMk
  replace hS := hS.marked hT9 hE9 hF9 hw5.out.1 hw5.out.2 hh8.out hlow.out
  clear hT9 hE9 hF9
  obtain ⟨mm, hmm⟩ : ∃ x, x = 1 + es.length * 2 + ds.length * 5 := ⟨_, rfl⟩
  have hmk : ¬ ((mm : Int) < 0) := by omega
  have hmn : (((mm : Nat) : Int) != ((mm : Nat) : Int)) = false := by simp
  have HHd := Aside0.mk (fun W hE hF => heldHead_calls n Ag Dg es.length ds.length cg dg Bg W hE hF hle hld)
  rw [← hmm] at HHd ⊢
  clear hmm
  obtain ⟨p0, p1, p2, _⟩ := cells3 hS.h8
  go_wp2_with fail
  refine (HHd.out _ hS.eg hS.fg).mono ?_
  rintro e w10 ⟨rfl, hb10⟩
  clear p0 p1 p2
  replace hS := hS.below hb10
  clear hb10
  go_wp2_with fail
  refine (HIm.out _ (HE.out _ hS.hb)).mono ?_
  rintro e w16 ⟨Ah, Dh, ch, dh, Bh, rfl, _, hEh, hFh, _, hb16⟩
  replace hS := hS.below hb16
  clear hb16
  obtain ⟨W17, hW17, HB17, hsz17, HG17⟩ := boxed w16 #[.string n, .slice Ah es.length ch, .slice Dh ds.length dh] 48
  have HW17 := Aside0.mk hW17
  replace hS := hS.below HB17
  replace hEh := own_below hEh HB17
  replace hFh := own_below hFh HB17
  clear hW17 HB17
  go_upto_region 16 with fail
  rw [← HW17.out]
  obtain ⟨e0, e1, e2, _⟩ := cells3 hS.h5
  obtain ⟨p0, p1, p2, _⟩ := cells3 HG17
  have HQ := Aside0.mk (by
    obtain ⟨_, _, ha, _, r1⟩ := ents_row hEh
    obtain ⟨_, _, hb, _, r2⟩ := ents_row hS.e0
    obtain ⟨_, _, hc, _, r3⟩ := defs_row hFh
    obtain ⟨_, _, hd, _, r4⟩ := defs_row hS.f0
    cases ha; cases hb; cases hc; cases hd
    exact eqHead_same n Ah A0 Dh D0 es ds ch c0 dh d0 W17 r1 r2 r3 r4)
  clear hEh hFh HG17 hsz17
  go_wp2_with fail
  refine (HQ.out).mono ?_
  rintro e w18 ⟨rfl, hb18⟩
  clear e0 e1 e2 p0 p1 p2 HQ
  replace hS := hS.below hb18
  clear hb18
  obtain ⟨p0, p1, p2, _⟩ := cells3 hS.h8
  go_wp2_with fail
  refine (HHd.out _ hS.eg hS.fg).mono ?_
  rintro e w19 ⟨rfl, hb19⟩
  clear p0 p1 p2
  have hfin := Aside0.mk (below_then hS.hb hb19)
  clear hS hb19
  go_wp2
  go_ret
  exact ⟨rfl, hfin.out⟩
end Go.Proofs.YtmfkdgdamepbcaaGreatDoor
end
section
/- FnExactHeadAt: for every text and place, the program's HeadAt answers as the reference's does, and what it hands back is its own; row and card. No condition but what the card lists of the library's own variables. -/
namespace Go.Proofs.YtmfkdgdamepbcaaGreatDoor
open Go.ChangeShapes Go.WideShapes Go.ChangeAt Go.RowKit
open Go.ChangeMaps (open_string shut_string)
set_option linter.unusedVariables false
set_option maxRecDepth 100000
theorem own : ownKnob Tryz.prog.godebug = none := by kernel_rfl
theorem laidOut : laidOutB Tryz.prog = true := by kernel_rfl
/-- There is an input that fits: the world that the listed variables lay. -/
theorem witness_laid {H : Type} {enc : TypeId × Value → H} {C : Checked} {os : Os} {f : FuncId} {fn : Func} {s : ChangeSpec} {conds : List PathCond} {laid : List (String × DataW Unit)} (w0 : World) (args : Array Value) (hos : w0.os = os)
    (hsh : (w0.forCall (fun _ _ => 0) ⟨#[], args, []⟩).Shaped C.prog)
    (hok : Input.okWideB C.prog (w0.forCall (fun _ _ => 0) ⟨#[], args, []⟩) f ⟨#[], args, []⟩ = true)
    (hrow : (OpenSpec.ofChange s).preRow enc C.prog fn conds false laid (w0.forCall (fun _ _ => 0) ⟨#[], args, []⟩).memory args) :
    ∃ (w : World) (tape : Tape) (i : Input), w.os = os ∧ (w.forCall tape i).Shaped C.prog ∧ i.vars = [] ∧ Input.okWide C.prog (w.forCall tape i) .any w.heap.size f i ∧
      (OpenSpec.ofChange s).preRow enc C.prog fn conds false laid (w.forCall tape i).memory i.args ∧ ({} : Assume).holds C.prog (lone (Frame.enter C.prog f i.args .normal) [] (w.forCall tape i)) :=
  ⟨w0, fun _ _ => 0, ⟨#[], args, []⟩, hos, hsh, (Input.okWide_of_okWideB (base := 0) hok).1, (Input.okWide_of_okWideB hok).2, hrow, by
    simp only [Assume.holds]
    exact ⟨by simp, by simp, fun _ => Modest.zero, by simp, by simp⟩⟩
theorem lifted_fnExactHeadAt (os : Os) (started : os.Started) (H : Type) (enc : TypeId × Value → H) (F : Stop.Interp) :
    ReturnsInHanded {} Tryz.checked os 6 .any ((OpenSpec.ofChange Rows.fnExactHeadAtSpec).preRow enc Tryz.prog Tryz.f6 Rows.fnExactHeadAtRow.domain false Rows.fnExactHeadAtRow.laid) (((OpenSpec.ofChange Rows.fnExactHeadAtSpec).at F).post enc Tryz.prog Tryz.f6 false true false false) := by
  have hx : DataW.whole enc Tryz.prog ((World.laidAll Tryz.prog os Rows.fnExactHeadAtRow.laid).forCall (fun _ _ => 0) ⟨#[], #[.string ⟨#[]⟩, .int .i64 0], []⟩).memory Tryz.f6.params.toList Rows.fnExactHeadAtSpec.vars false (#[.string ⟨#[]⟩, .int .i64 0] : Array Value).toList 8 = some ([.lit (.string []), .lit (.int .i64 0)], [], []) := by kernel_rfl
  refine returnsInHanded_of_row (C := Tryz.checked) (s := OpenSpec.ofChange Rows.fnExactHeadAtSpec) own started (by kernel_rfl) Tryz.func6
    (witness_laid (enc := enc) (C := Tryz.checked) (World.laidAll Tryz.prog os Rows.fnExactHeadAtRow.laid) #[.string ⟨#[]⟩, .int .i64 0] (World.laidAll_os _ _ _) (World.shaped_of_ZipB (by kernel_rfl) (by kernel_rfl)) (by kernel_rfl)
      (OpenSpec.preRow_of_cond 8 hx (by kernel_rfl) (fun k hk => by cases hk) (by kernel_rfl) (by rw [MakeChecks.laidMetH_plain _ _ _ (by kernel_rfl)]; exact laidMet_laidAll _ (by kernel_rfl) (by kernel_rfl)))) ?_
  intro W base args ds gs before hval0 hW hcnd _ hsz hL hshape _
  have hval : ∀ (j : Nat) t v, Tryz.f6.params[j]? = some t → args[j]? = some v → Value.okWide Tryz.prog W .any base t v := hval0
  have hW' := hW
  obtain ⟨p, q, hA0, hV, rfl, hfz, hnd⟩ := hW
  have hA : DataW.TrodAll enc Tryz.prog W 0 (fun _ => true) true Tryz.f6.params.toList args.toList ds p := hA0
  rw [Tryz.params6] at hA hval
  obtain ⟨v0, vs0, d0, ds0, p0, q0, hargs, rfl, rfl, h0, r0⟩ := trodAll_cons hA
  obtain ⟨v1, vs1, d1, ds1, p1, q1, rfl, rfl, rfl, h1, r1⟩ := trodAll_cons r0
  obtain ⟨rfl, rfl, rfl⟩ := trodAll_nil r1
  obtain rfl : args = #[v0, v1] := by cases args; simp_all
  obtain ⟨rfl, rfl⟩ := trodVars_none hV
  have k0 := h0
  have lt0 : ∀ x ∈ p0, x.block < W.heap.size := by obtain ⟨m, hm⟩ := k0; exact DataW.trod_lt m _ _ _ hm
  obtain ⟨x0, rfl, hd0, _, wx0⟩ := open_string Tryz.underlying9 (hval 0 9 v0 rfl rfl) h0
  have zx0 : x0.data.toList.length ≤ reachBytes := sized_string hsz (j := 0) (t := 9) rfl (by rw [hd0]; rfl)
  have k1 := h1
  have lt1 : ∀ x ∈ p1, x.block < W.heap.size := by obtain ⟨m, hm⟩ := k1; exact DataW.trod_lt m _ _ _ hm
  obtain ⟨x1, rfl, _, _, wx1⟩ := open_int Tryz.underlying3 (hval 1 3 v1 rfl rfl) h1
  have wx1 : -9223372036854775808 ≤ x1 ∧ x1 ≤ 9223372036854775807 := by simpa [Lit.wf, IntKind.min, IntKind.max, IntKind.signed, IntKind.bits] using wx1
  clear hA0 hval0
  rw [MakeChecks.laidMetH_plain _ _ _ (by kernel_rfl)] at hL
  have hE : Env W := ⟨utf_of hL (by simp [Rows.fnExactHeadAtRow]) (by simp [Rows.fnExactHeadAtRow]), len_of hshape⟩
  have hs0 : x0.size ≤ 9223372036854775807 := by rw [← str_size]; exact Nat.le_trans zx0 (by decide)
  refine (headAt_law x0 x1 W wx1.1 wx1.2 hs0 hE).mono fun e W' ⟨he, bel⟩ => ?_
  subst he
  exact ⟨_, rfl, _, _, _, [], _, [], hW', trodAll_mk1 (shut_bool Tryz.underlying4 _), (trodAll_cons_mk (Below.trod laidOut (by kernel_rfl) (of_decide_eq_true (by kernel_rfl)) k0 bel lt0) (trodAll_cons_mk (Below.trod laidOut (by kernel_rfl) (of_decide_eq_true (by kernel_rfl)) k1 bel lt1) trodAll_mk0)), rfl, bel.frame _, fun h => by cases h⟩
theorem fnExactHeadAt_said : Rows.FnExactHeadAtSaid :=
  OpenClaim.holds_of_cond 6 Tryz.f6 rfl rfl rfl rfl rfl rfl rfl ⟨rfl, rfl, rfl, rfl, rfl⟩ rfl rfl rfl rfl rfl (by kernel_rfl) Tryz.func6 fnExactHeadAt_facts
    (of_decide_eq_true (by kernel_rfl)) (by unfold Func.isWrapper; first | (rw [if_pos (by decide +kernel)]; kernel_rfl) | (rw [if_neg (by decide +kernel)]; exact ⟨rfl, rfl⟩))
    (fun os started H enc _ F => by rw [OpenClaim.pre_eq_preRow]; exact lifted_fnExactHeadAt os started H enc F)
theorem fnExactHeadAt_plain (f : FuncId) (fn : Func) (hf : Tryz.pinned.checked.prog.funcNamed "loop.example/g00484/laws.FnExactHeadAt" = some f) (hfn : Tryz.pinned.checked.prog.funcs[f]? = some fn) :
    true = Tryz.pinned.checked.prog.looks [] ∧ ∀ (j : Nat) t, fn.params[j]? = some t → Tryz.pinned.checked.prog.wantsStandIn t = false := by
  obtain rfl : f = 6 := Option.some.inj ((show Tryz.prog.funcNamed "loop.example/g00484/laws.FnExactHeadAt" = some 6 by kernel_rfl).symm.trans hf) |>.symm
  obtain rfl : fn = Tryz.f6 := (Option.some.inj (Tryz.func6.symm.trans hfn)).symm
  refine ⟨by kernel_rfl, fun j t ht => ?_⟩
  rw [Tryz.params6] at ht
  have hm : t ∈ ([9, 3] : List TypeId) := by simpa using Array.mem_of_getElem? ht
  have hall : (([9, 3] : List TypeId).all fun u => !Tryz.prog.wantsStandIn u) = true := by kernel_rfl
  exact (show Tryz.prog.wantsStandIn t = false by simpa using List.all_eq_true.1 hall t hm)
end Go.Proofs.YtmfkdgdamepbcaaGreatDoor
end
