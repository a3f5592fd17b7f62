/- strings.EqualFold against xml, of any text. -/
import Derived.Test.YtpcklgkpjmmakaaGreatDoorHas
import Derived.Laws.Strings3
import Derived.Laws.RangeString
import Derived.Laws.RangeAny
namespace Go.Proofs.YtpcklgkpjmmakaaGreatDoor
open Go.RowKit Go.Lib
set_option linter.unusedVariables false
set_option linter.unusedSimpArgs false
set_option maxHeartbeats 8000000
set_option maxRecDepth 1000000
/-- A scope whose label is jumped to once, forward. -/
theorem wp_scope_once {P : Program} {Q : Exit → Act → World → Prop} {a : Act} {w : World} {c rest : Code} (l : Nat) (hf : findLabel c l = some rest) (first : c.wp P (Exit.jump l (fun a w => rest.wp P (Exit.noGoto Q) a w) Q) a w) : (Code.scope c).wp P Q a w :=
  wp_scope_jumps l _ (fun _ _ => 0) hf first (fun a w h => Code.wp_mono (fun e a w he => by
    cases e with
    | goto l' => exact absurd he (by simp [Exit.noGoto])
    | _ => exact he) h)
/-- What the world holds of unicode's table of folds. -/
structure Folds (w : World) : Prop where
  x : w.cell? ⟨0, 120, none⟩ = some (.int .u16 88) ∧ w.cell? ⟨0, 88, none⟩ = some (.int .u16 120)
  m : w.cell? ⟨0, 109, none⟩ = some (.int .u16 77) ∧ w.cell? ⟨0, 77, none⟩ = some (.int .u16 109)
  l : w.cell? ⟨0, 108, none⟩ = some (.int .u16 76) ∧ w.cell? ⟨0, 76, none⟩ = some (.int .u16 108)
theorem Folds.below {w w1 : World} (h : Folds w) (hb : Below w.heap.size w w1) : Folds w1 := by
  have k : ∀ i v, w.cell? ⟨0, i, none⟩ = some v → w1.cell? ⟨0, i, none⟩ = some v := fun i v h => (hb.cell (p := ⟨_, i, none⟩) (World.block_lt_of_cell? w _ h)).trans h
  exact ⟨⟨k _ _ h.x.1, k _ _ h.x.2⟩, ⟨k _ _ h.m.1, k _ _ h.m.2⟩, ⟨k _ _ h.l.1, k _ _ h.l.2⟩⟩
theorem simpleFold_calls (c : Nat) (v : Int) (w : World) (hc : c < 128) (hv : w.cell? ⟨0, c, none⟩ = some (.int .u16 v)) (h0 : 0 ≤ v) (h1 : v < 128) :
    Calls Tryz.prog 195 #[.int .i32 c] w fun e w' => e = .returned (.int .i32 v) ∧ w = w' := by
  go_enter Tryz.func195, Tryz.ntmps195
  go_wp2
  go_ret
  exact ⟨rfl, rfl⟩
theorem below_iter (w : World) (s : ByteArray) (q : Nat) : Below w.heap.size w (w.iter s q) := by
  exact below_alloc (Below.refl _ _) _
theorem xml_at (t : ByteArray) (ht : t = ⟨#[120, 109, 108]⟩) (i : Nat) (hi : i < t.size) : (t[i]'hi).toNat = 120 ∨ (t[i]'hi).toNat = 109 ∨ (t[i]'hi).toNat = 108 := by
  subst ht
  match i, hi with
  | 0, _ => exact .inl rfl
  | 1, _ => exact .inr (.inl rfl)
  | 2, _ => exact .inr (.inr rfl)
theorem Folds.of {w : World} (h : Folds w) (y : Nat) (hy : y = 120 ∨ y = 109 ∨ y = 108) : w.cell? ⟨0, y, none⟩ = some (.int .u16 ((y - 32 : Nat) : Int)) ∧ w.cell? ⟨0, y - 32, none⟩ = some (.int .u16 (y : Int)) := by
  rcases hy with rfl | rfl | rfl
  · exact h.x
  · exact h.m
  · exact h.l
theorem foldXml_calls (s : ByteArray) (w : World) (hs : s.size ≤ 1000000000) (hE : Folds w) :
    Calls Tryz.prog 178 #[.string s, .string ⟨#[120, 109, 108]⟩] w fun e w' => e = .returned (.bool (isXml s)) ∧ Below w.heap.size w w' := by
  have hv := Aside0.mk (show isXml s = Lib.equalFold s.data.toList (⟨#[120, 109, 108]⟩ : ByteArray).data.toList from rfl)
  obtain ⟨t, ht⟩ : ∃ t : ByteArray, t = ⟨#[120, 109, 108]⟩ := ⟨_, rfl⟩
  rw [← ht] at hv ⊢
  have ht3 : t.size = 3 := by rw [ht]; rfl
  have hY := Aside0.mk (xml_at t ht)
  clear ht
  obtain ⟨M, hM⟩ : ∃ M : Nat, min (s.size : Int) (t.size : Int) = (M : Int) := ⟨min s.size t.size, by omega⟩
  have hMs : M ≤ s.size := by omega
  have hMt : M ≤ t.size := by omega
  have hMe : M = s.size ∨ M = t.size := by omega
  have ht3' : t.size ≤ 3 := by omega
  clear ht3
  have HE := Aside0.mk hE
  clear hE
  go_enter Tryz.func178, Tryz.ntmps178
  go_wp2
  refine wp_scope_once 0 rfl ?_
  go_wp2
  go_loopg [5] M (fun g s5 wx => w = wx ∧ ∃ i : Nat, i + g = M ∧ s5 = .int .i64 i ∧ Aside (Lib.equalFold (s.data.toList.drop i) (t.data.toList.drop i) = Lib.equalFold s.data.toList t.data.toList))
  case atStart => exact ⟨rfl, 0, by omega, rfl, rfl⟩
  case round =>
    obtain ⟨rfl, i, hig, rfl, HI⟩ := hrel
    clear hM
    cases gk with
    | zero =>
      have hiM : ¬ ((i : Int) < (M : Int)) := by omega
      obtain rfl : i = M := by omega
      have hE : isXml s = decide (s.size = t.size) := by
        rw [hv.out, ← HI.out, Lib.equalFold_end _ _ (by
          rcases hMe with h | h
          · exact Or.inl (List.drop_eq_nil_of_le (by rw [str_size]; omega))
          · exact Or.inr (List.drop_eq_nil_of_le (by rw [str_size]; omega))), List.length_drop, List.length_drop, str_size, str_size]
        exact decide_eq_decide.2 (by omega)
      by_cases hst : s.size = t.size
      · have hb : ((s.size : Int) == (t.size : Int)) = true := beq_iff_eq.2 (by omega)
        have hfin := Aside0.mk (hE.trans (decide_eq_true hst))
        clear hE hst
        go_wp2
        simp only [Exit.jump]
        go_ret
        exact ⟨by rw [hfin.out]; rfl, Below.refl _ _⟩
      · have hb : ((s.size : Int) == (t.size : Int)) = false := beq_eq_false_iff_ne.2 (by omega)
        have hfin := Aside0.mk (hE.trans (decide_eq_false hst))
        clear hE hst
        go_wp2
        simp only [Exit.jump]
        go_ret
        exact ⟨by rw [hfin.out]; rfl, Below.refl _ _⟩
    | succ g =>
      have hiM : (i : Int) < (M : Int) := by omega
      have hisz : (i : Int) < (s.size : Int) := by omega
      have hitz : (i : Int) < (t.size : Int) := by omega
      have hy3 := hY.out i (by omega)
      obtain ⟨x, hx⟩ : ∃ x : UInt8, s[i]'(by omega) = x := ⟨_, rfl⟩
      obtain ⟨y, hy⟩ : ∃ y : UInt8, t[i]'(by omega) = y := ⟨_, rfl⟩
      rw [hy] at hy3
      have hxl : s.data.toList[i]? = some x := by rw [← hx]; exact str_get s i (by omega)
      have hyl : t.data.toList[i]? = some y := by rw [← hy]; exact str_get t i (by omega)
      have hy128 : y.toNat < 128 := by omega
      have hx256 : x.toNat < 256 := UInt8.toNat_lt _
      have hor : bits .or .u8 (x.toNat : Int) (y.toNat : Int) = ((x.toNat ||| y.toNat : Nat) : Int) := u8_or_nat _ _ (by omega) (by omega)
      have Hx : Aside (s.data.toList[i]? = some x ∧ t.data.toList[i]? = some y) := ⟨hxl, hyl⟩
      clear hxl hyl
      have Hy3 := Aside0.mk hy3
      clear hy3
      by_cases hx128 : x.toNat < 128
      · have hor128 : ¬ ((128 : Int) ≤ ((x.toNat ||| y.toNat : Nat) : Int)) := by have := Nat.or_lt_two_pow (n := 7) hx128 hy128; omega
        go_wp2
        all_goals (try simp only [beq_iff_eq, beq_eq_false_iff_ne, ne_eq] at *)
        all_goals first
          | (go_roundg g
             case measure => omega
             case rel => exact ⟨rfl, i + 1, by omega, by first | rfl | simp, show _ = _ from by rw [← HI.out, Lib.drop_at Hx.out.1, Lib.drop_at Hx.out.2, Lib.equalFold_yes _ _ _ _ (decide_eq_true (by omega))]⟩)
          | (simp only [Exit.jump]; go_ret
             refine ⟨?_, Below.refl _ _⟩
             rw [hv.out, ← HI.out, Lib.drop_at Hx.out.1, Lib.drop_at Hx.out.2, Lib.equalFold_no _ _ _ _ (decide_eq_false (by omega))]
             rfl)
      · have hor128 : (128 : Int) ≤ ((x.toNat ||| y.toNat : Nat) : Int) := by have := Nat.left_le_or (m := y.toNat) (n := x.toNat); omega
        have hfin := Aside0.mk (show isXml s = false by rw [hv.out, ← HI.out, Lib.drop_at Hx.out.1, Lib.drop_at Hx.out.2, Lib.equalFold_no _ _ _ _ (decide_eq_false (by omega))])
        clear HI
        go_wp2
        go_step3
        refine ⟨rfl, ?_⟩
        go_wp2
        have e1 : (s.extract i s.size).size = s.size - i := by rw [ByteArray.size_extract]; omega
        have e2 : (t.extract i t.size).size = t.size - i := by rw [ByteArray.size_extract]; omega
        have hp : 0 < (s.extract i s.size).size := by omega
        have hp2 : 0 < (t.extract i t.size).size := by omega
        have hd := decode_high (s.extract i s.size) 0 hp (by
          have : (s.extract i s.size).data.toList[0]? = some x := by rw [Lib.extract_data, List.getElem?_take, if_pos (by omega), List.getElem?_drop, Nat.add_zero]; exact Hx.out.1
          rw [str_get _ 0 hp] at this
          injection this with this
          rw [this]; omega)
        have hdl : (Utf8.decode (s.extract i s.size) 0).1 ≤ 1114111 := by
          have := bt_lt (s.extract i s.size) 0
          rw [dec_bt]; unfold decodeN; repeat' split
          all_goals (simp only; omega)
        have ht0 := Aside0.mk (show (t.extract i t.size).data.toList[0]? = some y by rw [Lib.extract_data, List.getElem?_take, if_pos (by omega), List.getElem?_drop, Nat.add_zero]; exact Hx.out.2)
        clear e1 e2
        have hnx : ∀ ty, (Instr.next (.pointer (some ⟨w.heap.size, 0, none⟩)) true ty).run Tryz.prog (w.iter (s.extract i s.size) 0) = _ := fun ty => run_next_any w (s.extract i s.size) 0 ty hp
        obtain ⟨r, hr⟩ : ∃ r : Nat, (Utf8.decode (s.extract i s.size) 0).1 = r := ⟨_, rfl⟩
        obtain ⟨q, hq⟩ : ∃ q : Nat, 0 + (Utf8.decode (s.extract i s.size) 0).2 = q := ⟨_, rfl⟩
        rw [hr] at hd hdl hnx
        rw [hq] at hnx
        obtain ⟨hd, _⟩ := hd
        clear hr hq
        have hb0 : Below w.heap.size w (w.iter (s.extract i s.size) q) := below_iter _ _ _
        have HE1 := Aside0.mk (HE.out.below hb0)
        have hF := Aside0.mk (HE1.out.of y.toNat Hy3.out)
        go_loopg [1] 1 (fun k t1 wx => k = 1 ∧ t1 = .string (t.extract i t.size) ∧ wx = w.iter (s.extract i s.size) 0)
        case atStart => exact ⟨rfl, rfl, rfl⟩
        case round =>
          obtain ⟨rfl, rfl, rfl⟩ := hrel
          go_wp2_with fail
          refine (Tryz.utf8_DecodeRuneInString_ascii _ y _ ht0.out hy128).mono ?_
          rintro e w1 ⟨rfl, rfl⟩
          go_wp2_with fail
          refine (simpleFold_calls y.toNat ((y.toNat - 32 : Nat) : Int) _ hy128 hF.out.1 (by omega) (by omega)).mono ?_
          rintro e w1 ⟨rfl, rfl⟩
          have y1 : 97 ≤ y.toNat := by have := Hy3.out; omega
          obtain ⟨z, hz⟩ : ∃ z : Nat, y.toNat - 32 = z := ⟨_, rfl⟩
          rw [hz] at hF ⊢
          have z1 : z < y.toNat := by omega
          clear hz
          go_wp2
          go_loopg [13] 2 (fun k t13 wx => ((k = 2 ∧ t13 = .int .i32 z) ∨ (k = 1 ∧ t13 = .int .i32 y.toNat)) ∧ wx = w.iter (s.extract i s.size) q)
          case atStart => exact ⟨.inl ⟨rfl, rfl⟩, rfl⟩
          case round =>
            obtain ⟨h | h, rfl⟩ := hrel
            · obtain ⟨rfl, rfl⟩ := h
              have z3 : ¬ ((z : Int) = (y.toNat : Int)) := by omega
              have z4 : (z : Int) < (r : Int) := by omega
              go_wp2_with fail
              refine (simpleFold_calls z (y.toNat : Int) _ (by omega) hF.out.2 (by omega) (by omega)).mono ?_
              rintro e w1 ⟨rfl, rfl⟩
              go_wp2
              go_roundg 1
              case measure => omega
              case rel => exact ⟨.inr ⟨rfl, rfl⟩, rfl⟩
            · obtain ⟨rfl, rfl⟩ := h
              go_wp2
              simp only [Exit.noGoto]
              go_ret
              exact ⟨by rw [hfin.out]; rfl, hb0⟩
end Go.Proofs.YtpcklgkpjmmakaaGreatDoor
