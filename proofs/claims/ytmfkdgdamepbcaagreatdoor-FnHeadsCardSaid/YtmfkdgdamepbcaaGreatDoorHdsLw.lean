/- Joined: HdX, HdsW, HdsLaw. -/
import Derived.Test.YtmfkdgdamepbcaaGreatDoorHdD
import Derived.Test.YtmfkdgdamepbcaaGreatDoorHdA
import Derived.Test.YtmfkdgdamepbcaaGreatDoorDrM
import Derived.Test.YtmfkdgdamepbcaaGreatDoorHdF
import Derived.Test.YtmfkdgdamepbcaaGreatDoorEnvF
import Derived.Test.YtmfkdgdamepbcaaGreatDoorHdsFacts
import Derived.Test.YtmfkdgdamepbcaaGreatDoorRows
import Derived.Test.YtmfkdgdamepbcaaGreatDoorTie
import Derived.Test.YtmfkdgdamepbcaaGreatDoorCards
import Derived.WalkKit
import Derived.ProofKit
import Derived.OpenShut
import Derived.ShutString
import Derived.ChangeOld
import Derived.SizedLaws
import Derived.Deep.DeepHandedRow
import Derived.Lib.LaidTab
import Derived.Lay
import Derived.Stop.LaidErr
section
/- A head's Defs are each another's. -/
namespace Go.Proofs.YtmfkdgdamepbcaaGreatDoor
open Go.RowKit Go.Lib
set_option linter.unusedVariables false
set_option linter.unusedSimpArgs false
def DfDist (ds : List Df) : Prop := ∀ d ∈ ds, ds.find? (dfIs d.el d.at_) = some d
theorem DfDist.nil : DfDist [] := fun d hd => by cases hd
theorem dfIs_self (d : Df) : dfIs d.el d.at_ d = true := by rw [dfIs, decide_eq_true rfl, decide_eq_true rfl]; rfl
theorem DfDist.snoc {ds : List Df} {d : Df} (h : DfDist ds) (hn : hasDf ds d.el d.at_ = false) : DfDist (ds ++ [d]) := by
  intro x hx
  rw [List.find?_append]
  rcases List.mem_append.1 hx with hx | hx
  · rw [h x hx]; rfl
  · rw [List.mem_singleton] at hx
    subst hx
    rw [hasDf_find] at hn
    cases e : ds.find? (dfIs x.el x.at_) with
    | some y => rw [e] at hn; cases hn
    | none => rw [List.find?_cons_of_pos (dfIs_self x)]; rfl
theorem defO_new {s el : ByteArray} {k nx : Nat} {es : List Dcl} {ds : List Df} {x : Df} (h : defO s k el es ds = some (x, nx)) : hasDf ds x.el x.at_ = false := by
  unfold defO at h
  cases e1 : nameO s k with
  | none => rw [e1] at h; cases h
  | some p =>
    rw [e1] at h
    simp only [Option.bind_some] at h
    cases e2 : gapO s p.2 with
    | none => rw [e2] at h; cases h
    | some b1 =>
      rw [e2] at h
      simp only [Option.bind_some] at h
      cases e3 : kindO s b1 with
      | none => rw [e3] at h; cases h
      | some i =>
        rw [e3] at h
        simp only [Option.bind_some] at h
        cases e4 : gapO s i.2 with
        | none => rw [e4] at h; cases h
        | some b2 =>
          rw [e4] at h
          simp only [Option.bind_some] at h
          cases e5 : dfltO s b2 i.1 es with
          | none => rw [e5] at h; cases h
          | some d =>
            rw [e5] at h
            simp only [Option.bind_some] at h
            split at h
            · cases h
            · rename_i hc
              injection h with h
              injection h with h _
              rw [← h]
              cases e : hasDf ds el p.1 with
              | true => exact absurd (.inl e) hc
              | false => rfl
theorem listGo_dist (s el : ByteArray) (es : List Dcl) : ∀ (f k : Nat) (ds ds' : List Df) (nx : Nat), DfDist ds → listGo s el es f k ds = some (ds', nx) → DfDist ds'
  | 0, _, _, _, _, _, h => by cases h
  | f + 1, k, ds, ds', nx, hl, h => by
    rw [listGo] at h
    split at h
    · injection h with h; injection h with h _
      rw [← h]; exact hl
    · cases e : gapO s k with
      | none => rw [e] at h; cases h
      | some b =>
        rw [e] at h
        simp only [Option.bind_some] at h
        cases e2 : defO s b el es ds with
        | none => rw [e2] at h; cases h
        | some q =>
          obtain ⟨x, n2⟩ := q
          rw [e2] at h
          exact listGo_dist s el es f n2 (ds ++ [x]) ds' nx (hl.snoc (defO_new e2)) h
theorem listO_dist {s : ByteArray} {k nx : Nat} {es : List Dcl} {ds ds' : List Df} (hl : DfDist ds) (h : listO s k es ds = some (ds', nx)) : DfDist ds' := by
  unfold listO at h
  cases e : gapO s k with
  | none => rw [e] at h; cases h
  | some b =>
    rw [e] at h
    simp only [Option.bind_some] at h
    cases e2 : nameO s b with
    | none => rw [e2] at h; cases h
    | some p => rw [e2] at h; exact listGo_dist s p.1 es _ p.2 ds ds' nx hl h
theorem itemsGo_dist (s : ByteArray) : ∀ (f k : Nat) (es es' : List Dcl) (ds ds' : List Df) (nx : Nat), DfDist ds → itemsGo s f k es ds = some (es', ds', nx) → DfDist ds'
  | 0, _, _, _, _, _, _, _, h => by cases h
  | f + 1, k, es, es', ds, ds', nx, hl, h => by
    rw [itemsGo] at h
    split at h
    · injection h with h; injection h with _ h; injection h with h2 h
      rw [← h2]; exact hl
    split at h
    · cases e : hnoteO s (blanksN s k + 4) with
      | none => rw [e] at h; cases h
      | some p => rw [e] at h; exact itemsGo_dist s f p es es' ds ds' nx hl h
    split at h
    · cases e : entO s (blanksN s k + 8) es with
      | none => rw [e] at h; cases h
      | some q => rw [e] at h; exact itemsGo_dist s f q.2 _ es' ds ds' nx hl h
    split at h
    · cases e : listO s (blanksN s k + 9) es ds with
      | none => rw [e] at h; cases h
      | some q =>
        obtain ⟨x, p⟩ := q
        rw [e] at h
        exact itemsGo_dist s f p es es' x ds' nx (listO_dist hl e) h
    · cases h
theorem head_dist {s : ByteArray} {a : Int} : DfDist (hdM (headO s a)).defs := by
  cases hh : headO s a with
  | none => exact DfDist.nil
  | some q =>
    show DfDist q.1.defs
    unfold headO at hh
    split at hh
    · cases e : gapO s (a.toNat + 9) with
      | none => rw [e] at hh; cases hh
      | some b =>
        rw [e] at hh
        simp only [Option.bind_some] at hh
        cases e2 : nameO s b with
        | none => rw [e2] at hh; cases hh
        | some p =>
          rw [e2] at hh
          simp only [Option.bind_some] at hh
          cases e3 : restO s (blanksN s p.2) with
          | none => rw [e3] at hh; cases hh
          | some r =>
            obtain ⟨es, ds, k2⟩ := r
            rw [e3] at hh
            simp only [Option.bind_some] at hh
            have hd : DfDist ds := by
              unfold restO at e3
              split at e3
              · cases e4 : itemsN s (blanksN s p.2 + 1) [] [] with
                | none => rw [e4] at e3; cases e3
                | some t =>
                  obtain ⟨es1, ds1, k3⟩ := t
                  rw [e4] at e3
                  simp only [Option.map_some] at e3
                  injection e3 with e3; injection e3 with e5 e6; injection e6 with e6 _
                  rw [← e6]
                  exact itemsGo_dist s _ _ _ _ _ _ _ DfDist.nil e4
              · injection e3 with e3; injection e3 with e5 e6; injection e6 with e6 _
                rw [← e6]; exact DfDist.nil
            split at hh
            · injection hh with hh
              rw [← hh]; exact hd
            · cases hh
    · cases hh
end Go.Proofs.YtmfkdgdamepbcaaGreatDoor
end
section
/- FnHeads' own body. -/
namespace Go.Proofs.YtmfkdgdamepbcaaGreatDoor
open Go.RowKit Go.Lib
set_option linter.unusedVariables false
set_option linter.unusedSimpArgs false
set_option maxHeartbeats 0
set_option maxRecDepth 100000
theorem hd_facts (s : ByteArray) (a : Int) : entsOk (hdM (headO s a)).ents = true ∧ (hdM (headO s a)).defs.length ≤ 6 ∧ DfDist (hdM (headO s a)).defs ∧
    ((headO s a).isSome = false → hdK (headO s a) = 0) ∧ ((headO s a).isSome = true → ∃ j : Nat, hdK (headO s a) = (j : Int) + 1 ∧ ∃ h : j < s.size, (s[j]'h).toNat = 62) := by
  refine ⟨?_, (hdM_len).2, head_dist, ?_, ?_⟩
  · cases e : headO s a with
    | none => exact ents_nil
    | some q => exact (head_good (h := q.1) (k := q.2) e).1
  · cases e : headO s a with
    | none => exact fun _ => rfl
    | some q => exact fun h => by cases h
  · cases e : headO s a with
    | none => exact fun h => by cases h
    | some q =>
      intro _
      obtain ⟨_, _, hk, j, hj, hc⟩ := head_good (h := q.1) (k := q.2) e
      have hr : j + 1 ≤ s.size := isAt_room hc
      refine ⟨j, by show ((q.2 : Nat) : Int) = _; omega, by omega, ?_⟩
      have h1 := at_one hc
      have h2 : (s.extract j (j + 1)).data.toList = [(62 : UInt8)] := by rw [h1]
      rw [Lib.extract_data s j (j + 1), show j + 1 - j = 1 by omega, List.take_one, List.head?_drop, str_get s j (by omega)] at h2
      have h3 : [s[j]'(by omega)] = [(62 : UInt8)] := h2
      injection h3 with h3
      rw [h3]; rfl
theorem heads_law (A : Option Addr) (c : Nat) (xs : List Int) (w : World) (hl : xs.length ≤ c) (hr : Row (Kd.int .u8) w (fun k => k < w.heap.size) A xs) (hE : Env w) :
    Calls Tryz.prog 5 #[.slice A xs.length c] w fun e w' => e = .returned (.bool true) ∧ Below w.heap.size w w' := by
  have HE := Aside0.mk hE
  have HRx := Aside0.mk (fun W (hb : Below w.heap.size w W) => ((hr.below hb).mono (fun k (hk : k < w.heap.size) => Nat.lt_of_lt_of_le hk hb.size) : Row (Kd.int .u8) W (fun k => k < W.heap.size) A xs))
  clear hE
  go_enter Tryz.func5, Tryz.ntmps5
  go_wp2_with fail
  refine (big_calls A _ c w).mono ?_
  rintro e w0 ⟨rfl, rfl⟩
  by_cases hbig : (xs.length : Int) > 1048576
  · rw [decide_eq_true hbig]
    go_wp2
    go_ret
    exact ⟨rfl, Below.refl _ _⟩
  rw [decide_eq_false hbig]
  clear hbig
  go_wp2_with fail
  refine (drawHeadAt_calls A c xs w hl hr).mono ?_
  rintro e w1 ⟨s, a, rfl, hs, ha0, ha1, hb1⟩
  have hf := hd_facts s a
  obtain ⟨R, hR⟩ : ∃ R, R = headO s a := ⟨_, rfl⟩
  have HIm := Aside0.mk ((implHeadAt_calls s a w1 (by omega) (by omega) (by omega) (HE.out.below hb1)).mono (fun _ _ h => hdOut_is h))
  have HSp := Aside0.mk (fun W => (specHeadAt_calls s a W (by omega) (by omega) (by omega)).mono (fun _ _ h => hdOut_is h))
  rw [← hR] at HIm HSp hf
  obtain ⟨m, hm⟩ : ∃ m, m = hdM R := ⟨_, rfl⟩
  obtain ⟨k0, hk0⟩ : ∃ k0, k0 = hdK R := ⟨_, rfl⟩
  obtain ⟨q0, hq0⟩ : ∃ q0, q0 = R.isSome := ⟨_, rfl⟩
  rw [← hm] at HSp HIm hf
  rw [← hk0, ← hq0] at HSp HIm hf
  clear hm hR hk0 hq0
  obtain ⟨n, es, ds⟩ := m
  dsimp only at HSp HIm hf
  obtain ⟨hok, hld, hdist, hno, hyes⟩ := hf
  have HOK := Aside0.mk hok
  have HDist := Aside0.mk hdist
  have HNo := Aside0.mk hno
  have HYes := Aside0.mk hyes
  have hle := (ents_le hok).1
  have hkk : (k0 != k0) = false := by simp
  have hqq : (q0 != q0) = false := by simp
  clear hok hdist hno hyes
  go_wp2_with fail
  refine (HIm.out).mono ?_
  rintro e w2 ⟨A0, D0, c0, d0, B0, rfl, hB0, hE0, hF0, hne0, hb2⟩
  obtain ⟨_, _, he0, _, r0⟩ := ents_row hE0
  cases he0
  obtain ⟨_, _, he0, _, r1⟩ := defs_row hF0
  cases he0
  obtain ⟨W3, hW3, HB3, hsz3, HG3⟩ := boxed w2 #[.string n, .slice A0 es.length c0, .slice D0 ds.length d0] 48
  have HW3 := Aside0.mk hW3
  have hb3 := below_then (below_then hb1 hb2) HB3
  replace r0 := r0.below HB3
  replace r1 := r1.below HB3
  clear hW3 HB3 hb1 hb2 hE0 hF0 hne0 hB0
  go_upto_region 5 with fail
  rw [← HW3.out]
  go_wp2_with fail
  refine (HSp.out W3).mono ?_
  rintro e w4 ⟨A1, D1, c1, d1, B1, rfl, hB1, hE1, hF1, hne1, hb4⟩
  obtain ⟨_, _, he0, _, r2⟩ := ents_row hE1
  cases he0
  obtain ⟨_, _, he0, _, r3⟩ := defs_row hF1
  cases he0
  obtain ⟨W5, hW5, HB5, hsz5, HG5⟩ := boxed w4 #[.string n, .slice A1 es.length c1, .slice D1 ds.length d1] 48
  have HW5 := Aside0.mk hW5
  have hb35 := below_then hb4 HB5
  have hb5 := below_then hb3 hb35
  replace r0 := r0.below hb35
  replace r1 := r1.below hb35
  replace r2 := r2.below HB5
  replace r3 := r3.below HB5
  have HGa := (hb35.block _ hsz3).trans HG3
  have hl2 : w2.heap.size < W5.heap.size := Nat.lt_of_lt_of_le hsz3 hb35.size
  clear hW5 HB5 hb4 hb35 hE1 hF1 hne1 hB1 HG3 hb3 hsz3
  go_upto_region 6 with fail
  rw [← HW5.out]
  go_wp2_with fail
  refine (drawDefOf_calls A c xs W5 hl (HRx.out _ hb5)).mono ?_
  rintro e w6 ⟨Al, cl, l, el, nm, rfl, hrl, hb6⟩
  obtain ⟨x, hx⟩ := dfV_is (l.find? (dfIs el nm))
  obtain ⟨y, hy⟩ : ∃ b, b = (l.find? (dfIs el nm)).isSome := ⟨_, rfl⟩
  have HDi := Aside0.mk (fun W (h : Row Kd.df W (fun _ => True) Al l) => implDefOf_calls l Al cl el nm W h)
  have HDs := Aside0.mk (fun W (h : Row Kd.df W (fun _ => True) Al l) => specDefOf_calls l Al cl el nm W h)
  rw [hx, ← hy] at HDi HDs
  simp only [dfG] at HDi HDs
  clear hx hy
  have hyy : (y != y) = false := by simp
  have hxi : (x.id != x.id) = false := by simp
  have hxh : (x.has != x.has) = false := by simp
  go_wp2_with fail
  refine (HDi.out _ hrl).mono ?_
  rintro e w7 ⟨rfl, hb7⟩
  obtain ⟨W8, hW8, HB8, hsz8, HG8⟩ := boxed w7 #[.string x.el, .string x.at_, .bool x.id, .bool x.has, .string x.val] 54
  have HW8 := Aside0.mk hW8
  have hrl8 := (hrl.below hb7).below HB8
  have hb58 := below_then (below_then hb6 hb7) HB8
  clear hW8 HB8 hb6 hb7 hrl
  go_upto_region 8 with fail
  rw [← HW8.out]
  go_wp2_with fail
  refine (HDs.out _ hrl8).mono ?_
  rintro e w9 ⟨rfl, hb9⟩
  obtain ⟨W10, hW10, HB10, hsz10, HG10⟩ := boxed w9 #[.string x.el, .string x.at_, .bool x.id, .bool x.has, .string x.val] 54
  have HW10 := Aside0.mk hW10
  have hb8 := below_then hb9 HB10
  have hb510 := below_then hb58 hb8
  have HGx := (hb8.block _ hsz8).trans HG8
  have hb10 := Aside0.mk (below_then hb5 hb510)
  have hl2' : w2.heap.size < W10.heap.size := Nat.lt_of_lt_of_le hl2 hb510.size
  have hl4' : w4.heap.size < W10.heap.size := Nat.lt_of_lt_of_le hsz5 hb510.size
  have HKa := Aside0.mk (fun W1 (hb : Below W10.heap.size W10 W1) => cells3 ((hb.block _ hl2').trans ((hb510.block _ hl2).trans HGa)))
  have HKb := Aside0.mk (fun W1 (hb : Below W10.heap.size W10 W1) => cells3 ((hb.block _ hl4').trans ((hb510.block _ hsz5).trans HG5)))
  have HRa := Aside0.mk (fun W1 (hb : Below W10.heap.size W10 W1) => r0.below (below_then hb510 hb))
  have HDa := Aside0.mk (fun W1 (hb : Below W10.heap.size W10 W1) => r1.below (below_then hb510 hb))
  have HRb := Aside0.mk (fun W1 (hb : Below W10.heap.size W10 W1) => r2.below (below_then hb510 hb))
  have HDb := Aside0.mk (fun W1 (hb : Below W10.heap.size W10 W1) => r3.below (below_then hb510 hb))
  clear hW10 HB10 hb9 hb8 hb58 hb510 hb5 HG8 HG5 HGa r0 r1 r2 r3 hrl8 hsz8 hl2 hsz5
  go_upto_region 9 with fail
  rw [← HW10.out]
  obtain ⟨e0, e1, e2, _⟩ := HKa.out _ (Below.refl _ _)
  obtain ⟨f0, f1, f2, _⟩ := HKb.out _ (Below.refl _ _)
  obtain ⟨p0, p1, p2, p3, p4, _⟩ := cells5 HGx
  obtain ⟨u0, u1, u2, u3, u4, _⟩ := cells5 HG10
  go_upto_region 11 with fail
  clear e0 e1 e2 f0 f1 f2 p0 p1 p2 p3 p4 u0 u1 u2 u3 u4 hyy hxi hxh hkk hqq HGx HG10
  go_wp2_with fail
  go_loopg [18] es.length (fun k i wr => ∃ j : Nat, i = .int .i64 (j : Int) ∧ j + k = es.length ∧ Below W10.heap.size W10 wr)
  case atStart => exact ⟨0, rfl, by omega, Below.refl _ _⟩
  case round =>
    obtain ⟨j, rfl, hj, hb⟩ := hrel
    have hsz := hb.size
    obtain ⟨e0, e1, e2, _⟩ := HKa.out _ hb
    obtain ⟨f0, f1, f2, _⟩ := HKb.out _ hb
    by_cases hlt : j < es.length
    · have hji : (j : Int) < (es.length : Int) := by omega
      go_upto_region 14 with fail
      obtain ⟨ba, oa, hAa, hba, ca, cb⟩ := dcl_at (HRa.out _ hb) j hlt
      obtain ⟨bb, ob, hAb, hbb, da, db⟩ := dcl_at (HRb.out _ hb) j hlt
      have E1 := later_cell e1 (by omega)
      have F1 := later_cell f1 (by omega)
      have CA := later_cell ca hba
      have CB := later_cell cb hba
      have DA' := later_cell da hbb
      have DB := later_cell db hbb
      subst hAa hAb
      clear e0 e1 e2 f0 f1 f2 ca cb da db
      refine wp_region_later (by kernel_rfl) (by kernel_rfl) ?_
      repeat (go_big_quiet_step (fail))
      refine wpQuiet_nil ?_
      rintro _ ⟨⟨W6, hb6⟩, rfl⟩
      clear E1 F1 CA CB DA' DB
      go_wp2
      go_roundg (gk - 1)
      case measure => omega
      case rel => exact ⟨j + 1, by go_num, by omega, below_then hb hb6⟩
    · have hji : ¬ ((j : Int) < (es.length : Int)) := by omega
      go_upto_region 16 with fail
      clear e0 e1 e2 f0 f1 f2 hji
      go_wp2_with fail
      go_loopg [19] ds.length (fun k i wr => ∃ j : Nat, i = .int .i64 (j : Int) ∧ j + k = ds.length ∧ Below W10.heap.size W10 wr)
      case atStart => exact ⟨0, rfl, by omega, hb⟩
      case round =>
        clear hb hsz hj hlt
        obtain ⟨j, rfl, hj, hb⟩ := hrel
        have hsz := hb.size
        obtain ⟨e0, e1, e2, _⟩ := HKa.out _ hb
        by_cases hlt : j < ds.length
        · have hji : (j : Int) < (ds.length : Int) := by omega
          go_upto_region 19 with fail
          obtain ⟨ba, oa, hAa, hba, a0, a1, a2, a3, a4⟩ := df_at (HDa.out _ hb) j hlt
          have hdm := HDist.out _ (List.getElem_mem hlt)
          obtain ⟨d, hd⟩ : ∃ d, d = ds[j]'hlt := ⟨_, rfl⟩
          rw [← hd] at a0 a1 a2 a3 a4 hdm
          have Hd := Aside0.mk hd
          subst hAa
          have hba' : ba < wr.heap.size := hba
          have HDO := Aside0.mk (fun W (hbw : Below wr.heap.size wr W) => show Calls Tryz.prog 26 #[.slice (some ⟨ba, oa, none⟩) ds.length d0, .string d.el, .string d.at_] W fun e w' => e = .returned (.tuple #[.agg #[.string d.el, .string d.at_, .bool d.id, .bool d.has, .string d.val], .bool true]) ∧ Below wr.heap.size wr w' ∧ Below W.heap.size W w' from by
            refine (implDefOf_calls ds (some ⟨ba, oa, none⟩) d0 d.el d.at_ W (HDa.out _ (below_then hb hbw))).mono ?_
            rintro e w' ⟨rfl, h2⟩
            rw [hdm]
            exact ⟨rfl, below_then hbw h2, h2⟩)
          have HKS := Aside0.mk (fun W (hbw : Below wr.heap.size wr W) => show Below wr.heap.size wr W ∧ W.cell? ⟨w2.heap.size, 2, none⟩ = some (.slice (some ⟨ba, oa, none⟩) ds.length d0) ∧ W.cell? ⟨ba, oa + j * 5, none⟩ = some (.string d.el) ∧ W.cell? ⟨ba, oa + j * 5 + 1, none⟩ = some (.string d.at_) from
            ⟨hbw, ((bcell hbw).1 _ 2 (by omega)).trans e2, ((bcell hbw).1 ba _ hba').trans a0, ((bcell hbw).1 ba _ hba').trans a1⟩)
          have HA := Aside0.mk (And.intro a0 (And.intro a1 (And.intro a2 (And.intro a3 a4))))
          clear hdm hd a2 a3 a4 e0 e1
          go_cut [20, 21] (fun p20 p21 wx => ∃ gm, p20 = .pointer (some ⟨gm, 0, none⟩) ∧ p21 = .bool true ∧ Below wr.heap.size wr wx ∧ wx.heap[gm]? = some (.cells #[.string d.el, .string d.at_, .bool d.id, .bool d.has, .string d.val] 54 (0, 0)))
          case first =>
            go_region_held3 (fun w' => Below wr.heap.size wr w' ∧ w'.cell? ⟨w2.heap.size, 2, none⟩ = some (.slice (some ⟨ba, oa, none⟩) ds.length d0) ∧ w'.cell? ⟨ba, oa + j * 5, none⟩ = some (.string d.el) ∧ w'.cell? ⟨ba, oa + j * 5 + 1, none⟩ = some (.string d.at_))
              (refine HKS.out _ ?_ <;> (first | assumption | exact below_drew (Below.refl _ _) | exact below_drew (below_alloc (Below.refl _ _) _) | exact below_alloc (below_drew (Below.refl _ _)) _ | exact below_alloc hb24 _ | exact below_moved hb24 (((((Moved.refl _ _).set).set).set).set).set (Nat.le_refl _)))
              (first
                | (go_at_call 26; refine (HDO.out _ (by first | exact below_drew (Below.refl _ _) | exact below_drew (below_alloc (Below.refl _ _) _))).mono ?_; rintro e w24 ⟨rfl, hb24, hb24'⟩
                   first
                     | (have hz24 := zero_box wr hb24' rfl
                        obtain ⟨y0, y1, y2, y3, y4, z0, z1, z2, z3, z4⟩ := cells5 hz24)
                     | skip)
                | fail)
            all_goals
              go_wp2_with fail
              go_meet
              first
                | exact ⟨w24.heap.size, rfl, rfl, below_alloc hb24 _, Array.getElem?_push_size⟩
                | (obtain ⟨X24, hX24, hXg, hXm⟩ := out5 hz24 (.string d.el) (.string d.at_) (.bool d.id) (.bool d.has) (.string d.val)
                   exact ⟨wr.heap.size, rfl, rfl, hX24 ▸ below_moved hb24 hXm (Nat.le_refl _), hX24 ▸ hXg⟩)
          case rest =>
          clear a0 a1 e2
          obtain ⟨gm, hp20, hp21, hbx, hgx⟩ := hcut
          subst hp20 hp21
          have hbc := below_then hb hbx
          have hszc := hbc.size
          have hgl : gm < wc.heap.size := (Array.getElem?_eq_some_iff.1 hgx).1
          obtain ⟨a0, a1, a2, a3, a4⟩ := HA.out
          obtain ⟨e0, e1, e2, _⟩ := HKa.out _ hbc
          obtain ⟨f0, f1, f2, _⟩ := HKb.out _ hbc
          obtain ⟨bb, ob, hAb, hbb, b0, b1, b2, b3, b4⟩ := df_at (HDb.out _ hbc) j hlt
          obtain ⟨ba2, oa2, hAa2, hba2, s0, s1, s2, s3, s4⟩ := df_at (HDa.out _ hbc) j hlt
          injection hAa2 with hAa2
          injection hAa2 with hx1 hx2
          subst hx1 hx2
          rw [← Hd.out] at b0 b1 b2 b3 b4 s0 s1 s2 s3 s4
          obtain ⟨t0, t1, t2, t3, t4, _⟩ := cells5 hgx
          have hdi : (d.id != d.id) = false := by simp
          have hdh : (d.has != d.has) = false := by simp
          have E2 := later_cell e2 (by omega)
          have F2 := later_cell f2 (by omega)
          have B0' := later_cell b0 hbb
          have B1' := later_cell b1 hbb
          have B2' := later_cell b2 hbb
          have B3' := later_cell b3 hbb
          have B4' := later_cell b4 hbb
          have S0 := later_cell s0 hba2
          have S1 := later_cell s1 hba2
          have S2 := later_cell s2 hba2
          have S3 := later_cell s3 hba2
          have S4 := later_cell s4 hba2
          have T0 := later_cell t0 hgl
          have T1 := later_cell t1 hgl
          have T2 := later_cell t2 hgl
          have T3 := later_cell t3 hgl
          have T4 := later_cell t4 hgl
          subst hAb
          clear a0 a1 a2 a3 a4 e0 e1 e2 f0 f1 f2 b0 b1 b2 b3 b4 s0 s1 s2 s3 s4 t0 t1 t2 t3 t4 hgx
          go_upto_region 20 with fail
          refine wp_region_later (by kernel_rfl) (by kernel_rfl) ?_
          repeat (go_big_quiet_step (fail))
          refine wpQuiet_nil ?_
          rintro _ ⟨⟨W20, hb20⟩, rfl⟩
          clear E2 F2 B0' B1' B2' B3' B4' S0 S1 S2 S3 S4 T0 T1 T2 T3 T4
          go_wp2
          go_roundg (gk - 1)
          case measure => omega
          case rel => exact ⟨j + 1, by go_num, by omega, below_then hbc hb20⟩
        · have hji : ¬ ((j : Int) < (ds.length : Int)) := by omega
          go_upto_region 22 with fail
          have hEo := Aside0.mk (implEntsOk_calls A0 c0 es _ (HRa.out _ hb) (ents_le HOK.out).2 ((HE.out.below hb10.out).below hb))
          rw [HOK.out] at hEo
          have hldi : (ds.length : Int) ≤ 6 := by omega
          go_wp2_with fail
          refine (hEo.out).mono ?_
          rintro e w30 ⟨rfl, hb30⟩
          obtain ⟨e0', e1', e2', _⟩ := HKa.out _ (below_then hb hb30)
          have hfin := Aside0.mk (below_then hb10.out (below_then hb hb30))
          clear e0 e1 e2 hji
          cases q0 with
          | true =>
            obtain ⟨i, hk1, hi1, hch⟩ := HYes.out rfl
            subst hk1
            have hi2 : (i : Int) < (s.size : Int) := by omega
            go_wp2
            go_ret
            exact ⟨rfl, hfin.out⟩
          | false =>
            have hk1 := HNo.out rfl
            subst hk1
            go_wp2
            go_ret
            exact ⟨rfl, hfin.out⟩
end Go.Proofs.YtmfkdgdamepbcaaGreatDoor
end
section
/- FnHeads: of drawn texts what stands ahead is as the document has it; what stands for something is right; row and card. No condition but what the card lists of the library's own variables. -/
namespace Go.Proofs.YtmfkdgdamepbcaaGreatDoor
open Go.ChangeShapes Go.WideShapes Go.ChangeAt Go.RowKit
open Go.ChangeMaps (open_string shut_string)
set_option linter.unusedVariables false
set_option maxRecDepth 100000
theorem own : ownKnob Tryz.prog.godebug = none := by kernel_rfl
theorem laidOut : laidOutB Tryz.prog = true := by kernel_rfl
/-- There is an input that fits: the world that the listed variables lay. -/
theorem witness_laid {H : Type} {enc : TypeId × Value → H} {C : Checked} {os : Os} {f : FuncId} {fn : Func} {s : ChangeSpec} {conds : List PathCond} {laid : List (String × DataW Unit)} (w0 : World) (args : Array Value) (hos : w0.os = os)
    (hsh : (w0.forCall (fun _ _ => 0) ⟨#[], args, []⟩).Shaped C.prog)
    (hok : Input.okWideB C.prog (w0.forCall (fun _ _ => 0) ⟨#[], args, []⟩) f ⟨#[], args, []⟩ = true)
    (hrow : (OpenSpec.ofChange s).preRow enc C.prog fn conds false laid (w0.forCall (fun _ _ => 0) ⟨#[], args, []⟩).memory args) :
    ∃ (w : World) (tape : Tape) (i : Input), w.os = os ∧ (w.forCall tape i).Shaped C.prog ∧ i.vars = [] ∧ Input.okWide C.prog (w.forCall tape i) .any w.heap.size f i ∧
      (OpenSpec.ofChange s).preRow enc C.prog fn conds false laid (w.forCall tape i).memory i.args ∧ ({} : Assume).holds C.prog (lone (Frame.enter C.prog f i.args .normal) [] (w.forCall tape i)) :=
  ⟨w0, fun _ _ => 0, ⟨#[], args, []⟩, hos, hsh, (Input.okWide_of_okWideB (base := 0) hok).1, (Input.okWide_of_okWideB hok).2, hrow, by
    simp only [Assume.holds]
    exact ⟨by simp, by simp, fun _ => Modest.zero, by simp, by simp⟩⟩
theorem lifted_fnHeads (os : Os) (started : os.Started) (H : Type) (enc : TypeId × Value → H) (F : Stop.Interp) :
    ReturnsInHanded {} Tryz.checked os 5 .any ((OpenSpec.ofChange Rows.fnHeadsSpec).preRow enc Tryz.prog Tryz.f5 Rows.fnHeadsRow.domain false Rows.fnHeadsRow.laid) (((OpenSpec.ofChange Rows.fnHeadsSpec).at F).post enc Tryz.prog Tryz.f5 false true false false) := by
  have hx : DataW.whole enc Tryz.prog ((World.laidAll Tryz.prog os Rows.fnHeadsRow.laid).forCall (fun _ _ => 0) ⟨#[], #[.slice none 0 0], []⟩).memory Tryz.f5.params.toList Rows.fnHeadsSpec.vars false (#[.slice none 0 0] : Array Value).toList 8 = some ([.nil], [], []) := by kernel_rfl
  refine returnsInHanded_of_row (C := Tryz.checked) (s := OpenSpec.ofChange Rows.fnHeadsSpec) own started (by kernel_rfl) Tryz.func5
    (witness_laid (enc := enc) (C := Tryz.checked) (World.laidAll Tryz.prog os Rows.fnHeadsRow.laid) #[.slice none 0 0] (World.laidAll_os _ _ _) (World.shaped_of_ZipB (by kernel_rfl) (by kernel_rfl)) (by kernel_rfl)
      (OpenSpec.preRow_of_cond 8 hx (by kernel_rfl) (fun k hk => by cases hk) (by kernel_rfl) (by rw [MakeChecks.laidMetH_plain _ _ _ (by kernel_rfl)]; exact laidMet_laidAll _ (by kernel_rfl) (by kernel_rfl)))) ?_
  intro W base args ds gs before hval0 hW hcnd _ hsz hL hshape _
  have hval : ∀ (j : Nat) t v, Tryz.f5.params[j]? = some t → args[j]? = some v → Value.okWide Tryz.prog W .any base t v := hval0
  have hW' := hW
  obtain ⟨p, q, hA0, hV, rfl, hfz, hnd⟩ := hW
  have hA : DataW.TrodAll enc Tryz.prog W 0 (fun _ => true) true Tryz.f5.params.toList args.toList ds p := hA0
  rw [Tryz.params5] at hA hval
  obtain ⟨v0, vs0, d0, ds0, p0, q0, hargs, rfl, rfl, h0, r0⟩ := trodAll_cons hA
  obtain ⟨rfl, rfl, rfl⟩ := trodAll_nil r0
  obtain rfl : args = #[v0] := by cases args; simp_all
  obtain ⟨rfl, rfl⟩ := trodVars_none hV
  have k0 := h0
  have lt0 : ∀ x ∈ p0, x.block < W.heap.size := by obtain ⟨m, hm⟩ := k0; exact DataW.trod_lt m _ _ _ hm
  obtain ⟨a0, n0, c0, rfl⟩ := okWide_slice Tryz.underlying22 (hval 0 22 v0 rfl rfl)
  obtain ⟨xs0, A0, cc0, he0, hl0, hr0⟩ : ∃ xs, (Kd.slice (Kd.int .u8)).K W (fun _ => True) xs [.slice a0 n0 c0] := by
    obtain ⟨m, hm⟩ := h0
    exact opens_slice Tryz.underlying22 (by kernel_rfl) (by decide) (fun n _ => opens_int Tryz.underlying5) _ _ hm
  injection he0 with he0 _; injection he0 with e1 e2 e3; subst e1; subst e2; subst e3
  have hr0 := hr0.bound.mono (fun k (hk : True ∧ k < W.heap.size) => hk.2)
  clear hA0 hval0
  rw [MakeChecks.laidMetH_plain _ _ _ (by kernel_rfl)] at hL
  have hE : Env W := ⟨utf_of hL (by simp [Rows.fnHeadsRow]) (by simp [Rows.fnHeadsRow]), len_of hshape⟩
  refine (heads_law a0 c0 xs0 W hl0 hr0 hE).mono fun e W' ⟨he, bel⟩ => ?_
  subst he
  exact ⟨_, rfl, _, _, _, [], _, [], hW', trodAll_mk1 (shut_bool Tryz.underlying4 _), (trodAll_cons_mk (Below.trod laidOut (by kernel_rfl) (of_decide_eq_true (by kernel_rfl)) k0 bel lt0) trodAll_mk0), rfl, bel.frame _, fun h => by cases h⟩
theorem fnHeads_said : Rows.FnHeadsSaid :=
  OpenClaim.holds_of_cond 5 Tryz.f5 rfl rfl rfl rfl rfl rfl rfl ⟨rfl, rfl, rfl, rfl, rfl⟩ rfl rfl rfl rfl rfl (by kernel_rfl) Tryz.func5 fnHeads_facts
    (of_decide_eq_true (by kernel_rfl)) (by unfold Func.isWrapper; first | (rw [if_pos (by decide +kernel)]; kernel_rfl) | (rw [if_neg (by decide +kernel)]; exact ⟨rfl, rfl⟩))
    (fun os started H enc _ F => by rw [OpenClaim.pre_eq_preRow]; exact lifted_fnHeads os started H enc F)
theorem fnHeads_plain (f : FuncId) (fn : Func) (hf : Tryz.pinned.checked.prog.funcNamed "loop.example/g00484/laws.FnHeads" = some f) (hfn : Tryz.pinned.checked.prog.funcs[f]? = some fn) :
    true = Tryz.pinned.checked.prog.looks [] ∧ ∀ (j : Nat) t, fn.params[j]? = some t → Tryz.pinned.checked.prog.wantsStandIn t = false := by
  obtain rfl : f = 5 := Option.some.inj ((show Tryz.prog.funcNamed "loop.example/g00484/laws.FnHeads" = some 5 by kernel_rfl).symm.trans hf) |>.symm
  obtain rfl : fn = Tryz.f5 := (Option.some.inj (Tryz.func5.symm.trans hfn)).symm
  refine ⟨by kernel_rfl, fun j t ht => ?_⟩
  rw [Tryz.params5] at ht
  have hm : t ∈ ([22] : List TypeId) := by simpa using Array.mem_of_getElem? ht
  have hall : (([22] : List TypeId).all fun u => !Tryz.prog.wantsStandIn u) = true := by kernel_rfl
  exact (show Tryz.prog.wantsStandIn t = false by simpa using List.all_eq_true.1 hall t hm)
end Go.Proofs.YtmfkdgdamepbcaaGreatDoor
end
