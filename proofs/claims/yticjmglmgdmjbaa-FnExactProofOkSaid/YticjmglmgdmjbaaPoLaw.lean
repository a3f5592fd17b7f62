/- FnExactProofOk: for every Proof that comes in, the program's ProofOk answers as the reference's does, and the argument reads as it did. No condition. -/
import Derived.Test.YticjmglmgdmjbaaRows
import Derived.Test.YticjmglmgdmjbaaPo
import Derived.Test.YticjmglmgdmjbaaOpen
import Derived.ProofKit
import Derived.OpenShut
import Derived.ShutString
import Derived.ChangeOld
import Derived.SizedLaws
namespace Go.Proofs.Yticjmglmgdmjbaa
open Go.ChangeShapes Go.WideShapes Go.ChangeAt Go.RowKit
open Go.ChangeMaps (open_string shut_string)
set_option linter.unusedVariables false
theorem own : ownKnob Try.prog.godebug = none := by kernel_rfl
theorem laidOut : laidOutB Try.prog = true := by kernel_rfl
theorem opens_proof (H : Type) (enc : TypeId × Value → H) (w : World) (n : Nat) : Opens enc Try.prog w n 25 (Kd.pair (Kd.slice (Kd.int .i64)) (Kd.slice (Kd.slice (Kd.int .i64)))) := by
  refine opens_two (f0 := _) (f1 := _) Try.underlying25 (by kernel_rfl) rfl rfl (by kernel_rfl) (by kernel_rfl) (fun n => ?_) (fun n => ?_)
  · exact opens_slice Try.underlying22 (by kernel_rfl) (by decide) (fun n _ => opens_int Try.underlying3)
  · exact opens_slice Try.underlying23 (by kernel_rfl) (by decide) (fun n _ => opens_slice Try.underlying22 (by kernel_rfl) (by decide) (fun n _ => opens_int Try.underlying3))

set_option maxRecDepth 100000 in
theorem lifted (os : Os) (started : os.Started) (H : Type) (enc : TypeId × Value → H) :
    ReturnsInHanded {} Try.checked os 3 .any (Rows.fnExactProofOkSpec.pre6 enc Try.prog Try.f3 Rows.fnExactProofOkRow.domain false) (Rows.fnExactProofOkSpec.post enc Try.prog Try.f3 false true false false) := by
  refine returnsInHanded_of_change_sized (C := Try.checked) own started (by kernel_rfl) Try.func3
    (ChangeSpec.witness6 (enc := enc) (C := Try.checked) false ⟨#[], #[.agg #[.slice none 0 0, .slice none 0 0]], []⟩ 8 (by kernel_rfl) (by kernel_rfl) (by kernel_rfl) (by kernel_rfl)) ?_
  intro W base args ds gs before hval0 hW hcnd hsz0 _
  have hval : ∀ (j : Nat) t v, Try.f3.params[j]? = some t → args[j]? = some v → Value.okWide Try.prog W .any base t v := hval0
  have hW' := hW
  obtain ⟨p, q, hA0, hV, rfl, hfz, hnd⟩ := hW
  have hA : DataW.TrodAll enc Try.prog W 0 (fun _ => true) true Try.f3.params.toList args.toList ds p := hA0
  rw [Try.params3] at hA hval
  obtain ⟨v0, vs0, d0, ds0, p0, q0, hargs, rfl, rfl, h0, r0⟩ := trodAll_cons hA
  obtain ⟨rfl, rfl, rfl⟩ := trodAll_nil r0
  obtain rfl : args = #[v0] := by cases args; simp_all
  obtain ⟨rfl, rfl⟩ := trodVars_none hV
  obtain ⟨cs, rfl, hcs⟩ := okWide_struct Try.underlying25 (hval 0 25 v0 rfl rfl)
  have k0 := h0
  have lt0 : ∀ x ∈ p0, x.block < W.heap.size := by obtain ⟨m, hm⟩ := k0; exact DataW.trod_lt m _ _ _ hm
  obtain ⟨⟨own, kids⟩, c0, c1, hcc, ⟨A, c, rfl, hl, hr⟩, ⟨B, c', rfl, hl', hr'⟩⟩ : ∃ v, (Kd.pair (Kd.slice (Kd.int .i64)) (Kd.slice (Kd.slice (Kd.int .i64)))).K W (fun _ => True) v cs.toList := by
    obtain ⟨m, hm⟩ := h0
    exact opens_proof H enc W m _ _ hm
  obtain ⟨l⟩ := cs
  have hcc : l = [.slice A own.length c, .slice B kids.length c'] := hcc
  subst hcc
  clear hA0 hval0 hsz0
  refine (law_calls _ _ _ _ _ _ _ hr hr').mono fun e W' ⟨he, bel⟩ => ?_
  subst he
  exact ⟨_, rfl, _, _, _, [], _, [], hW', trodAll_mk1 (shut_bool Try.underlying4 _), (trodAll_cons_mk (Below.trod laidOut (by kernel_rfl) (of_decide_eq_true (by kernel_rfl)) k0 bel lt0) trodAll_mk0), rfl, bel.frame _, fun h => by cases h⟩
theorem fnExactProofOk_holds : Rows.FnExactProofOkSaid :=
  OpenClaim.holds_of_wide 3 Try.f3 rfl rfl rfl rfl rfl rfl rfl ⟨rfl, rfl, rfl, rfl, rfl⟩ rfl rfl rfl rfl rfl (by kernel_rfl) Try.func3 (by kernel_rfl)
    (of_decide_eq_true (by kernel_rfl)) (by unfold Func.isWrapper; first | (rw [if_pos (by decide +kernel)]; kernel_rfl) | (rw [if_neg (by decide +kernel)]; exact ⟨rfl, rfl⟩))
    (fun os started H enc _ => lifted os started H enc)
#print axioms fnExactProofOk_holds
end Go.Proofs.Yticjmglmgdmjbaa
