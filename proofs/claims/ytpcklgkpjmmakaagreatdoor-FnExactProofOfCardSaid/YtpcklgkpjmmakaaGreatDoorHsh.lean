/- Joined: Hash, Hash2. -/
import Derived.Test.YtpcklgkpjmmakaaGreatDoorWrite
import Derived.Laws.BytesString
import Derived.Lib.ConvBytes
section
/- WriteNode, HashOf, Fold, of both. -/
namespace Go.Proofs.YtpcklgkpjmmakaaGreatDoor
open Go.RowKit Go.Lib
set_option linter.unusedVariables false
set_option linter.unusedSimpArgs false
set_option maxHeartbeats 8000000
set_option maxRecDepth 100000
def wNode (n : Nd) : ByteArray := if nodeOk n then ⟨(writeL n).toArray⟩ else ⟨#[]⟩
theorem wNode_le (n : Nd) (h : wt n ≤ 1048576) : (wNode n).size ≤ 20000000 := by
  unfold wNode
  split
  · show (writeL n).length ≤ _
    have := writeL_le n
    omega
  · show 0 ≤ _; omega
def hstep (h x : Nat) : Nat := ((h ^^^ x) * 16777619) % 4294967296
theorem hstep_lt (h x : Nat) : hstep h x < 4294967296 := Nat.mod_lt _ (by omega)
def foldH (h : Nat) (l : List Nat) : Nat := l.foldl hstep h
def hashB (s : ByteArray) : Nat := foldH 2166136261 (s.data.toList.map UInt8.toNat)
theorem foldH_lt (h : Nat) (l : List Nat) (hh : h < 4294967296) : foldH h l < 4294967296 := by
  unfold foldH
  induction l generalizing h with
  | nil => exact hh
  | cons x l ih => exact ih _ (hstep_lt h x)
theorem foldH_take (h : Nat) (l : List Nat) (j : Nat) (hj : j < l.length) : foldH h (l.take (j + 1)) = hstep (foldH h (l.take j)) (l[j]'hj) := by
  unfold foldH
  rw [List.take_succ_eq_append_getElem hj, List.foldl_append, List.foldl_cons, List.foldl_nil]
theorem ofInt_64 (a : Nat) (ha : a < 18446744073709551616) : (BitVec.ofInt 64 (a : Int)).toNat = a := by
  rw [BitVec.ofInt_natCast, BitVec.toNat_ofNat]; exact Nat.mod_eq_of_lt (by omega)
theorem i64_xor32 (a b : Nat) (ha : a < 4294967296) (hb : b < 4294967296) : bits .xor .i64 (a : Int) (b : Int) = ((a ^^^ b : Nat) : Int) := by
  have hx : a ^^^ b < 2 ^ 32 := Nat.xor_lt_two_pow (by omega) (by omega)
  show IntKind.i64.wrap ((BitVec.ofInt 64 (a : Int) ^^^ BitVec.ofInt 64 (b : Int)).toNat : Int) = _
  rw [BitVec.toNat_xor, ofInt_64 a (by omega), ofInt_64 b (by omega), IntKind.wrap_i64]
  omega
theorem i64_and32 (a : Nat) (ha : a < 9223372036854775808) : bits .and .i64 (a : Int) 4294967295 = ((a % 4294967296 : Nat) : Int) := by
  show IntKind.i64.wrap ((BitVec.ofInt 64 (a : Int) &&& BitVec.ofInt 64 ((4294967295 : Nat) : Int)).toNat : Int) = _
  rw [BitVec.toNat_and, ofInt_64 a (by omega), ofInt_64 4294967295 (by omega), show (4294967295 : Nat) = 2 ^ 32 - 1 from rfl, Nat.and_two_pow_sub_one_eq_mod, IntKind.wrap_i64]
  omega
theorem xor_lt {a b : Nat} (ha : a < 4294967296) (hb : b < 4294967296) : a ^^^ b < 4294967296 := Nat.xor_lt_two_pow (n := 32) (by omega) (by omega)
theorem hash_and (h x : Nat) (hx : h ^^^ x < 4294967296) : bits .and .i64 (((h ^^^ x : Nat) : Int) * 16777619) 4294967295 = ((hstep h x : Nat) : Int) := by
  have := i64_and32 ((h ^^^ x) * 16777619) (by omega)
  rw [Int.natCast_mul] at this
  exact this
theorem specWriteNode_calls (n : Nd) (s : Sh) (w : World) (ok : Nat → Prop) (hwt : wt n ≤ 1048576) (hn : NodeIs w ok n s) :
    Calls Tryz.prog 94 #[.agg #[.int .i64 n.kind, .string n.pre, .string n.loc, .string n.uri, .slice s.Ad n.decls.length s.cd, .slice s.Aa n.attrs.length s.ca, .slice s.Ak n.kids.length s.ck, .string n.text]] w fun e w' => e = .returned (.string (wNode n)) ∧ Below w.heap.size w w' := by
  obtain ⟨Ad, cd, Aa, ca, Ak, ck⟩ := s
  obtain ⟨W, hW, HB, hsz, HG⟩ := boxed w #[.int .i64 n.kind, .string n.pre, .string n.loc, .string n.uri, .slice Ad n.decls.length cd, .slice Aa n.attrs.length ca, .slice Ak n.kids.length ck, .string n.text] 28
  have K := Aside0.mk (fun W1 hb => box_cells (((hb : Below W.heap.size W W1).block _ hsz).trans HG))
  have H1 := Aside0.mk (specNodeOk_calls n ⟨Ad, cd, Aa, ca, Ak, ck⟩ W ok hwt (hn.below HB))
  have H2 := Aside0.mk (fun W1 (hb : Below W.heap.size W W1) => l9Write_calls (cnt n) n ⟨Ad, cd, Aa, ca, Ak, ck⟩ W1 ok (Nat.le_refl _) hwt (hn.below (below_then HB hb)))
  have hv := Aside0.mk (show wNode n = if nodeOk n then ⟨(writeL n).toArray⟩ else ⟨#[]⟩ from rfl)
  simp only at H1 H2 ⊢
  have HW := Aside0.mk hW
  clear hW
  clear hn hwt HG
  go_enter Tryz.func94, Tryz.ntmps94
  go_upto_region 1 with fail
  rw [← HW.out]
  obtain ⟨c0, c1, c2, c3, c4, c5, c6, c7⟩ := K.out _ (Below.refl _ _)
  go_wp2_with fail
  refine (H1.out).mono ?_
  rintro e w1 ⟨rfl, hb1⟩
  obtain ⟨d0, d1, d2, d3, d4, d5, d6, d7⟩ := K.out _ hb1
  clear c0 c1 c2 c3 c4 c5 c6 c7
  cases hq : nodeOk n
  case false =>
    have hfin := Aside0.mk (show wNode n = ⟨#[]⟩ by rw [hv.out, hq]; rfl)
    clear hq
    go_wp2
    go_ret
    exact ⟨by rw [hfin.out]; rfl, below_then HB hb1⟩
  have hfin := Aside0.mk (show wNode n = ⟨(writeL n).toArray⟩ by rw [hv.out, hq]; rfl)
  clear hq
  go_wp2_with fail
  refine (H2.out _ hb1).mono ?_
  rintro e w2 ⟨rfl, hb2⟩
  go_wp2
  go_ret
  exact ⟨by rw [hfin.out]; rfl, below_then HB (below_then hb1 hb2)⟩
theorem implWriteNode_calls (n : Nd) (s : Sh) (w : World) (ok : Nat → Prop) (hwt : wt n ≤ 1048576) (hn : NodeIs w ok n s) (hE : Env w) (hF : Folds w) :
    Calls Tryz.prog 85 #[.agg #[.int .i64 n.kind, .string n.pre, .string n.loc, .string n.uri, .slice s.Ad n.decls.length s.cd, .slice s.Aa n.attrs.length s.ca, .slice s.Ak n.kids.length s.ck, .string n.text]] w fun e w' => e = .returned (.string (wNode n)) ∧ Below w.heap.size w w' := by
  obtain ⟨Ad, cd, Aa, ca, Ak, ck⟩ := s
  obtain ⟨W, hW, HB, hsz, HG⟩ := boxed w #[.int .i64 n.kind, .string n.pre, .string n.loc, .string n.uri, .slice Ad n.decls.length cd, .slice Aa n.attrs.length ca, .slice Ak n.kids.length ck, .string n.text] 28
  have K := Aside0.mk (fun W1 hb => box_cells (((hb : Below W.heap.size W W1).block _ hsz).trans HG))
  have H1 := Aside0.mk (implNodeOk_calls n ⟨Ad, cd, Aa, ca, Ak, ck⟩ W ok hwt (hn.below HB) (hE.below HB) (hF.below HB))
  have H2 := Aside0.mk (fun W1 (hb : Below W.heap.size W W1) => written_calls (cnt n) n ⟨Ad, cd, Aa, ca, Ak, ck⟩ W1 ok (Nat.le_refl _) hwt (hn.below (below_then HB hb)) (hE.below (below_then HB hb)))
  have hv := Aside0.mk (show wNode n = if nodeOk n then ⟨(writeL n).toArray⟩ else ⟨#[]⟩ from rfl)
  simp only at H1 H2 ⊢
  have HW := Aside0.mk hW
  clear hW
  clear hn hwt HG hE hF
  go_enter Tryz.func85, Tryz.ntmps85
  go_upto_region 1 with fail
  rw [← HW.out]
  obtain ⟨c0, c1, c2, c3, c4, c5, c6, c7⟩ := K.out _ (Below.refl _ _)
  go_wp2_with fail
  refine (H1.out).mono ?_
  rintro e w1 ⟨rfl, hb1⟩
  obtain ⟨d0, d1, d2, d3, d4, d5, d6, d7⟩ := K.out _ hb1
  clear c0 c1 c2 c3 c4 c5 c6 c7
  cases hq : nodeOk n
  case false =>
    have hfin := Aside0.mk (show wNode n = ⟨#[]⟩ by rw [hv.out, hq]; rfl)
    clear hq
    go_wp2
    go_ret
    exact ⟨by rw [hfin.out]; rfl, below_then HB hb1⟩
  have hfin := Aside0.mk (show wNode n = ⟨(writeL n).toArray⟩ by rw [hv.out, hq]; rfl)
  clear hq
  go_wp2_with fail
  refine (H2.out _ hb1).mono ?_
  rintro e w2 ⟨rfl, hb2⟩
  go_wp2
  go_ret
  exact ⟨by rw [hfin.out]; rfl, below_then HB (below_then hb1 hb2)⟩
theorem specHashOf_calls (n : Nd) (s : Sh) (w : World) (ok : Nat → Prop) (hwt : wt n ≤ 1048576) (hn : NodeIs w ok n s) :
    Calls Tryz.prog 50 #[.agg #[.int .i64 n.kind, .string n.pre, .string n.loc, .string n.uri, .slice s.Ad n.decls.length s.cd, .slice s.Aa n.attrs.length s.ca, .slice s.Ak n.kids.length s.ck, .string n.text]] w fun e w' => e = .returned (.int .i64 (hashB (wNode n))) ∧ Below w.heap.size w w' := by
  obtain ⟨Ad, cd, Aa, ca, Ak, ck⟩ := s
  obtain ⟨W, hW, HB, hsz, HG⟩ := boxed w #[.int .i64 n.kind, .string n.pre, .string n.loc, .string n.uri, .slice Ad n.decls.length cd, .slice Aa n.attrs.length ca, .slice Ak n.kids.length ck, .string n.text] 28
  have K := Aside0.mk (fun W1 hb => box_cells (((hb : Below W.heap.size W W1).block _ hsz).trans HG))
  have H1 := Aside0.mk (specWriteNode_calls n ⟨Ad, cd, Aa, ca, Ak, ck⟩ W ok hwt (hn.below HB))
  have hle := wNode_le n hwt
  obtain ⟨t, ht⟩ : ∃ t, t = wNode n := ⟨_, rfl⟩
  rw [← ht] at hle H1 ⊢
  have hv := Aside0.mk (show hashB t = foldH 2166136261 (t.data.toList.map UInt8.toNat) from rfl)
  simp only at H1 ⊢
  have HW := Aside0.mk hW
  clear hW
  clear hn hwt HG ht
  go_enter Tryz.func50, Tryz.ntmps50
  go_upto_region 1 with fail
  rw [← HW.out]
  obtain ⟨c0, c1, c2, c3, c4, c5, c6, c7⟩ := K.out _ (Below.refl _ _)
  go_wp2_with fail
  refine (H1.out).mono ?_
  rintro e w1 ⟨rfl, hb1⟩
  clear c0 c1 c2 c3 c4 c5 c6 c7
  go_wp2
  go_loopg [4, 5] t.size (fun k a i wr => ∃ (h j : Nat), a = .int .i64 h ∧ i = .int .i64 j ∧ j + k = t.size ∧ h < 4294967296 ∧ Aside (h = foldH 2166136261 ((t.data.toList.map UInt8.toNat).take j)) ∧ wr = w1)
  case atStart => exact ⟨2166136261, 0, rfl, rfl, by omega, by omega, (by simp [foldH] : 2166136261 = foldH 2166136261 ((t.data.toList.map UInt8.toNat).take 0)), rfl⟩
  case round =>
    obtain ⟨h, j, rfl, rfl, hk, hh, ha, rfl⟩ := hrel
    by_cases hlt : j < t.size
    · obtain ⟨x, hx⟩ : ∃ x : Nat, (t[j]'hlt).toNat = x := ⟨_, rfl⟩
      have hx256 : x < 256 := by rw [← hx]; exact UInt8.toNat_lt _
      have hnx := Aside0.mk (show hstep h x = foldH 2166136261 ((t.data.toList.map UInt8.toNat).take (j + 1)) by
        rw [foldH_take _ _ _ (by rw [List.length_map, str_size]; exact hlt), ← ha.out, List.getElem_map, ← hx]
        have := str_get t j hlt
        rw [List.getElem?_eq_getElem (by rw [str_size]; exact hlt)] at this
        injection this with this
        rw [this])
      have hxor := i64_xor32 h x hh (by omega)
      have hxl := xor_lt hh (show x < 4294967296 by omega)
      have hlt2 := hstep_lt h x
      have hand := hash_and h x hxl
      clear ha
      go_wp2
      go_roundg (gk - 1)
      case measure => omega
      case rel => exact ⟨hstep h x, j + 1, rfl, by go_num, by omega, hlt2, hnx.out, rfl⟩
    · have hfin := Aside0.mk (show h = hashB t by rw [ha.out, hv.out, List.take_of_length_le (by rw [List.length_map, str_size]; omega)])
      clear ha
      go_wp2
      go_ret
      exact ⟨by rw [← hfin.out]; rfl, below_then HB hb1⟩
end Go.Proofs.YtpcklgkpjmmakaaGreatDoor
end
section
/- The program's summed, HashOf; Fold of both. -/
namespace Go.Proofs.YtpcklgkpjmmakaaGreatDoor
open Go.RowKit Go.Lib
set_option linter.unusedVariables false
set_option linter.unusedSimpArgs false
set_option maxHeartbeats 8000000
set_option maxRecDepth 100000
theorem below_bytes (w : World) (e : TypeId) (s : ByteArray) : Below w.heap.size w (Lib.bytesWorld w e s) :=
  ⟨rfl, rfl, rfl, by rw [Lib.bytesWorld_size]; omega, fun k hk => Lib.bytesWorld_at_old w e s k hk⟩
theorem summed_calls (h x : Nat) (w : World) (hh : h < 4294967296) (hx : x < 4294967296) :
    Calls Tryz.prog 54 #[.int .i64 h, .int .i64 x] w fun e w' => e = .returned (.int .i64 (hstep h x)) ∧ w = w' := by
  have hxor := i64_xor32 h x hh hx
  have hxl := xor_lt hh hx
  have hfin := Aside0.mk (show ((hstep h x : Nat) : Int) = (((h ^^^ x : Nat) : Int) * 16777619) % 4294967296 by unfold hstep; omega)
  go_enter Tryz.func54, Tryz.ntmps54
  go_wp2
  go_ret
  exact ⟨by rw [hfin.out]; rfl, rfl⟩
theorem implHashOf_calls (n : Nd) (s : Sh) (w : World) (ok : Nat → Prop) (hwt : wt n ≤ 1048576) (hn : NodeIs w ok n s) (hE : Env w) (hF : Folds w) :
    Calls Tryz.prog 42 #[.agg #[.int .i64 n.kind, .string n.pre, .string n.loc, .string n.uri, .slice s.Ad n.decls.length s.cd, .slice s.Aa n.attrs.length s.ca, .slice s.Ak n.kids.length s.ck, .string n.text]] w fun e w' => e = .returned (.int .i64 (hashB (wNode n))) ∧ Below w.heap.size w w' := by
  obtain ⟨Ad, cd, Aa, ca, Ak, ck⟩ := s
  obtain ⟨W, hW, HB, hsz, HG⟩ := boxed w #[.int .i64 n.kind, .string n.pre, .string n.loc, .string n.uri, .slice Ad n.decls.length cd, .slice Aa n.attrs.length ca, .slice Ak n.kids.length ck, .string n.text] 28
  have K := Aside0.mk (fun W1 hb => box_cells (((hb : Below W.heap.size W W1).block _ hsz).trans HG))
  have H1 := Aside0.mk (implWriteNode_calls n ⟨Ad, cd, Aa, ca, Ak, ck⟩ W ok hwt (hn.below HB) (hE.below HB) (hF.below HB))
  have hle := wNode_le n hwt
  obtain ⟨t, ht⟩ : ∃ t, t = wNode n := ⟨_, rfl⟩
  rw [← ht] at hle H1 ⊢
  have hv := Aside0.mk (show hashB t = foldH 2166136261 (t.data.toList.map UInt8.toNat) from rfl)
  simp only at H1 ⊢
  have HW := Aside0.mk hW
  clear hW
  clear hn hwt HG ht hE hF
  go_enter Tryz.func42, Tryz.ntmps42
  go_upto_region 1 with fail
  rw [← HW.out]
  obtain ⟨c0, c1, c2, c3, c4, c5, c6, c7⟩ := K.out _ (Below.refl _ _)
  go_wp2_with fail
  refine (H1.out).mono ?_
  rintro e w1 ⟨rfl, hb1⟩
  clear c0 c1 c2 c3 c4 c5 c6 c7
  have hcv := @Lib.run_convert_string_bytes Tryz.prog w1 9 22 5 t _ Tryz.underlying9 Tryz.underlying22 Tryz.underlying5
  have hwbc := Aside0.mk (Lib.bytesWorld_cell w1 5 t)
  have hwbb := Aside0.mk (below_bytes w1 5 t)
  have hwbs := Aside0.mk (Lib.bytesWorld_size w1 5 t)
  have hg0 := hb1.size
  go_wp2
  generalize Lib.bytesWorld w1 5 t = wb at hwbc hwbb hwbs ⊢
  generalize grownCap w1 t.size 0 5 = cb
  clear hcv
  go_loopg [3, 10] t.size (fun k a i wr => ∃ (h j : Nat), a = .int .i64 h ∧ i = .int .i64 j ∧ j + k = t.size ∧ h < 4294967296 ∧ Aside (h = foldH 2166136261 ((t.data.toList.map UInt8.toNat).take j)) ∧ wr = wb)
  case atStart => exact ⟨2166136261, 0, rfl, rfl, by omega, by omega, (by simp [foldH] : 2166136261 = foldH 2166136261 ((t.data.toList.map UInt8.toNat).take 0)), rfl⟩
  case round =>
    obtain ⟨h, j, rfl, rfl, hk, hh, ha, rfl⟩ := hrel
    by_cases hlt : j < t.size
    · have hc := hwbc.out j hlt
      obtain ⟨x, hx⟩ : ∃ x : Nat, (t.data.toList.getD j 0).toNat = x := ⟨_, rfl⟩
      rw [hx] at hc
      have hx256 : x < 256 := by rw [← hx]; exact UInt8.toNat_lt _
      have hnx := Aside0.mk (show hstep h x = foldH 2166136261 ((t.data.toList.map UInt8.toNat).take (j + 1)) by
        rw [foldH_take _ _ _ (by rw [List.length_map, str_size]; exact hlt), ← ha.out, List.getElem_map, ← hx, List.getD_eq_getElem?_getD, List.getElem?_eq_getElem (by rw [str_size]; exact hlt)]; rfl)
      have hlt2 := hstep_lt h x
      clear ha hx
      go_wp2_with fail
      refine (summed_calls h x _ hh (by omega)).mono ?_
      rintro e w2 ⟨rfl, rfl⟩
      go_wp2
      go_roundg (gk - 1)
      case measure => omega
      case rel => exact ⟨hstep h x, j + 1, rfl, by go_num, by omega, hlt2, hnx.out, rfl⟩
    · have hfin := Aside0.mk (show h = hashB t by rw [ha.out, hv.out, List.take_of_length_le (by rw [List.length_map, str_size]; omega)])
      clear ha
      go_wp2
      go_ret
      exact ⟨by rw [← hfin.out]; rfl, below_then HB (below_then hb1 hwbb.out)⟩
def Kd.nat : Kd Nat := Kd.one (fun n => Value.int .i64 (n : Int))
theorem specFold_calls {ok : Nat → Prop} (h0 : Nat) (A : Option Addr) (c : Nat) (xs : List Nat) (w : World) (hh : h0 < 4294967296) (hx : ∀ x ∈ xs, x < 4294967296) (hr : Row Kd.nat w ok A xs) :
    Calls Tryz.prog 14 #[.int .i64 h0, .slice A xs.length c] w fun e w' => e = .returned (.int .i64 (foldH h0 xs)) ∧ w = w' := by
  have hmax := hr.max
  have Hx := Aside0.mk hx
  clear hx
  go_enter Tryz.func14, Tryz.ntmps14
  go_wp2
  go_loopg [5, 6] xs.length (fun k a i wr => ∃ (h j : Nat), a = .int .i64 h ∧ i = .int .i64 j ∧ j + k = xs.length ∧ h < 4294967296 ∧ Aside (h = foldH h0 (xs.take j)) ∧ wr = w)
  case atStart => exact ⟨h0, 0, rfl, rfl, by omega, hh, (by simp [foldH] : h0 = foldH h0 (xs.take 0)), rfl⟩
  case round =>
    clear hh
    obtain ⟨h, j, rfl, rfl, hk, hh, ha, rfl⟩ := hrel
    by_cases hlt : j < xs.length
    · obtain ⟨b, o, rfl, hb, d0⟩ := one_at hr j hlt
      obtain ⟨x, hxe⟩ : ∃ x : Nat, xs[j]'hlt = x := ⟨_, rfl⟩
      have hx2 : x < 4294967296 := by rw [← hxe]; exact Hx.out _ (List.getElem_mem hlt)
      rw [hxe] at d0
      have hnx := Aside0.mk (show hstep h x = foldH h0 (xs.take (j + 1)) by rw [foldH_take _ _ _ hlt, ← ha.out, hxe])
      have hxor := i64_xor32 h x hh hx2
      have hxl := xor_lt hh hx2
      have hlt2 := hstep_lt h x
      have hand := hash_and h x hxl
      have i1 : (j : Int) < (xs.length : Int) := by omega
      clear ha hxe
      go_wp2
      go_roundg (gk - 1)
      case measure => omega
      case rel => exact ⟨hstep h x, j + 1, rfl, by go_num, by omega, hlt2, hnx.out, rfl⟩
    · have hfin := Aside0.mk (show h = foldH h0 xs by rw [ha.out, List.take_of_length_le (by omega)])
      clear ha
      go_wp2
      go_ret
      exact ⟨by rw [← hfin.out]; rfl, rfl⟩
theorem implFold_calls {ok : Nat → Prop} (h0 : Nat) (A : Option Addr) (c : Nat) (xs : List Nat) (w : World) (hh : h0 < 4294967296) (hx : ∀ x ∈ xs, x < 4294967296) (hr : Row Kd.nat w ok A xs) :
    Calls Tryz.prog 13 #[.int .i64 h0, .slice A xs.length c] w fun e w' => e = .returned (.int .i64 (foldH h0 xs)) ∧ w = w' := by
  have hmax := hr.max
  have Hx := Aside0.mk hx
  clear hx
  go_enter Tryz.func13, Tryz.ntmps13
  go_wp2
  go_loopg [0, 9] xs.length (fun k a i wr => ∃ (h j : Nat), a = .int .i64 h ∧ i = .int .i64 j ∧ j + k = xs.length ∧ h < 4294967296 ∧ Aside (h = foldH h0 (xs.take j)) ∧ wr = w)
  case atStart => exact ⟨h0, 0, rfl, rfl, by omega, hh, (by simp [foldH] : h0 = foldH h0 (xs.take 0)), rfl⟩
  case round =>
    clear hh
    obtain ⟨h, j, rfl, rfl, hk, hh, ha, rfl⟩ := hrel
    by_cases hlt : j < xs.length
    · obtain ⟨b, o, rfl, hb, d0⟩ := one_at hr j hlt
      obtain ⟨x, hxe⟩ : ∃ x : Nat, xs[j]'hlt = x := ⟨_, rfl⟩
      have hx2 : x < 4294967296 := by rw [← hxe]; exact Hx.out _ (List.getElem_mem hlt)
      rw [hxe] at d0
      have hnx := Aside0.mk (show hstep h x = foldH h0 (xs.take (j + 1)) by rw [foldH_take _ _ _ hlt, ← ha.out, hxe])
      have hlt2 := hstep_lt h x
      have i1 : (j : Int) < (xs.length : Int) := by omega
      clear ha hxe
      go_wp2_with fail
      refine (summed_calls h x _ hh hx2).mono ?_
      rintro e w2 ⟨rfl, rfl⟩
      go_wp2
      go_roundg (gk - 1)
      case measure => omega
      case rel => exact ⟨hstep h x, j + 1, rfl, by go_num, by omega, hlt2, hnx.out, rfl⟩
    · have hfin := Aside0.mk (show h = foldH h0 xs by rw [ha.out, List.take_of_length_le (by omega)])
      clear ha
      go_wp2
      go_ret
      exact ⟨by rw [← hfin.out]; rfl, rfl⟩
end Go.Proofs.YtpcklgkpjmmakaaGreatDoor
end
