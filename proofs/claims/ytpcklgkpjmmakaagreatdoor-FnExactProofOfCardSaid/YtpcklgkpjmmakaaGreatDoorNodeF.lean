/- Joined: Node, Flat. -/
import Derived.Test.YtpcklgkpjmmakaaGreatDoorBase
section
/- The trees' data: Decls, Attrs, nodes; how they lie in a world. No program here. -/
namespace Go.Proofs.YtpcklgkpjmmakaaGreatDoor
open Go.RowKit
set_option linter.unusedVariables false
structure Dcl where
  pre : ByteArray
  uri : ByteArray
structure Atr where
  pre : ByteArray
  loc : ByteArray
  uri : ByteArray
  val : ByteArray
structure Nd where
  kind : Int
  pre : ByteArray
  loc : ByteArray
  uri : ByteArray
  decls : List Dcl
  attrs : List Atr
  kids : List Nd
  text : ByteArray
/-- Cells that are known by the datum alone. -/
def Kd.flat {α : Type} (n : Nat) (enc : α → List Value) (h : ∀ x, (enc x).length = n) : Kd α where
  sz := n
  K := fun _ _ x cs => cs = enc x
  len := fun e => by rw [e]; exact h _
  agree := fun _ e => e
  mono := fun _ e => e
  bound := fun e => e
def Dcl.cells (d : Dcl) : List Value := [.string d.pre, .string d.uri]
def Atr.cells (a : Atr) : List Value := [.string a.pre, .string a.loc, .string a.uri, .string a.val]
def Kd.dcl : Kd Dcl := Kd.flat 2 Dcl.cells (fun _ => rfl)
def Kd.atr : Kd Atr := Kd.flat 4 Atr.cells (fun _ => rfl)
/-- Where a node's lists lie. -/
structure Sh where
  Ad : Option Addr
  cd : Nat
  Aa : Option Addr
  ca : Nat
  Ak : Option Addr
  ck : Nat
def Nd.cells (n : Nd) (s : Sh) : List Value :=
  [.int .i64 n.kind, .string n.pre, .string n.loc, .string n.uri, .slice s.Ad n.decls.length s.cd, .slice s.Aa n.attrs.length s.ca, .slice s.Ak n.kids.length s.ck, .string n.text]
inductive NodeK (w : World) (ok : Nat → Prop) : Nd → List Value → Prop
  | mk (n : Nd) (s : Sh) (cf : Nat → List Value) (hd : n.decls.length ≤ s.cd) (rd : Row Kd.dcl w ok s.Ad n.decls) (ha : n.attrs.length ≤ s.ca) (ra : Row Kd.atr w ok s.Aa n.attrs)
      (hk : n.kids.length ≤ s.ck) (hm : n.kids.length ≤ maxLen)
      (rk : n.kids = [] ∨ ∃ b o, s.Ak = some ⟨b, o, none⟩ ∧ ok b ∧ b < w.heap.size ∧ ∀ i, i < n.kids.length → ∀ j v, (cf i)[j]? = some v → w.cell? ⟨b, o + i * 8 + j, none⟩ = some v)
      (kk : ∀ i (hi : i < n.kids.length), NodeK w ok (n.kids[i]'hi) (cf i)) : NodeK w ok n (n.cells s)
theorem NodeK.length {w : World} {ok : Nat → Prop} {n : Nd} {cs : List Value} (h : NodeK w ok n cs) : cs.length = 8 := by cases h; rfl
theorem NodeK.agree {w w1 : World} {ok : Nat → Prop} {n : Nd} {cs : List Value} (hs : ∀ k, ok k → k < w.heap.size → w1.heap[k]? = w.heap[k]?) (h : NodeK w ok n cs) : NodeK w1 ok n cs := by
  induction h with
  | mk n s cf hd rd ha ra hk hm rk kk ih =>
    refine .mk n s cf hd (rd.agree hs) ha (ra.agree hs) hk hm ?_ ih
    rcases rk with h | ⟨b, o, hA, hb, hlt, hi⟩
    · exact .inl h
    · exact .inr ⟨b, o, hA, hb, lt_of_same (hs b hb hlt) hlt, fun i h j v hj => (World.cell?_of_block (w := w) (a := ⟨b, o + i * 8 + j, none⟩) (hs b hb hlt)).trans (hi i h j v hj)⟩
theorem NodeK.mono {w : World} {ok ok' : Nat → Prop} {n : Nd} {cs : List Value} (hs : ∀ k, ok k → ok' k) (h : NodeK w ok n cs) : NodeK w ok' n cs := by
  induction h with
  | mk n s cf hd rd ha ra hk hm rk kk ih =>
    refine .mk n s cf hd (rd.mono hs) ha (ra.mono hs) hk hm ?_ ih
    rcases rk with h | ⟨b, o, hA, hb, hlt, hi⟩
    · exact .inl h
    · exact .inr ⟨b, o, hA, hs b hb, hlt, hi⟩
theorem NodeK.bound {w : World} {ok : Nat → Prop} {n : Nd} {cs : List Value} (h : NodeK w ok n cs) : NodeK w (fun k => ok k ∧ k < w.heap.size) n cs := by
  induction h with
  | mk n s cf hd rd ha ra hk hm rk kk ih =>
    refine .mk n s cf hd rd.bound ha ra.bound hk hm ?_ ih
    rcases rk with h | ⟨b, o, hA, hb, hlt, hi⟩
    · exact .inl h
    · exact .inr ⟨b, o, hA, ⟨hb, hlt⟩, hlt, hi⟩
def Kd.node : Kd Nd where
  sz := 8
  K := NodeK
  len := NodeK.length
  agree := NodeK.agree
  mono := NodeK.mono
  bound := NodeK.bound
/-- A node lies so in a world. -/
structure NodeIs (w : World) (ok : Nat → Prop) (n : Nd) (s : Sh) : Prop where
  cd : n.decls.length ≤ s.cd
  decls : Row Kd.dcl w ok s.Ad n.decls
  ca : n.attrs.length ≤ s.ca
  attrs : Row Kd.atr w ok s.Aa n.attrs
  ck : n.kids.length ≤ s.ck
  kids : Row Kd.node w ok s.Ak n.kids
theorem NodeK.is {w : World} {ok : Nat → Prop} {n : Nd} {cs : List Value} (h : NodeK w ok n cs) : ∃ s, cs = n.cells s ∧ NodeIs w ok n s := by
  cases h with
  | mk _ s cf hd rd ha ra hk hm rk kk =>
    refine ⟨s, rfl, hd, rd, ha, ra, hk, hm, ?_⟩
    rcases rk with h | ⟨b, o, hA, hb, hlt, hi⟩
    · exact .inl h
    · exact .inr ⟨b, o, hA, hb, hlt, fun i h => ⟨cf i, kk i h, hi i h⟩⟩
theorem NodeIs.k {w : World} {ok : Nat → Prop} {n : Nd} {s : Sh} (h : NodeIs w ok n s) : NodeK w ok n (n.cells s) := by
  rcases h.kids.2 with hn | ⟨b, o, hA, hb, hlt, hi⟩
  · exact .mk n s (fun _ => []) h.cd h.decls h.ca h.attrs h.ck h.kids.1 (.inl hn) (fun i hh => by rw [hn] at hh; exact absurd hh (Nat.not_lt_zero _))
  · refine .mk n s (fun i => if hh : i < n.kids.length then Classical.choose (hi i hh) else []) h.cd h.decls h.ca h.attrs h.ck h.kids.1 (.inr ⟨b, o, hA, hb, hlt, fun i hh => ?_⟩) (fun i hh => ?_)
    · simp only [dif_pos hh]; exact (Classical.choose_spec (hi i hh)).2
    · simp only [dif_pos hh]; exact (Classical.choose_spec (hi i hh)).1
theorem NodeIs.agree {w w1 : World} {ok : Nat → Prop} {n : Nd} {s : Sh} (hs : ∀ k, ok k → k < w.heap.size → w1.heap[k]? = w.heap[k]?) (h : NodeIs w ok n s) : NodeIs w1 ok n s :=
  ⟨h.cd, h.decls.agree hs, h.ca, h.attrs.agree hs, h.ck, h.kids.agree hs⟩
theorem NodeIs.below {w w1 : World} {ok : Nat → Prop} {n : Nd} {s : Sh} (h : NodeIs w ok n s) (hb : Below w.heap.size w w1) : NodeIs w1 ok n s := h.agree (fun k _ hlt => hb.block k hlt)
theorem NodeIs.mono {w : World} {ok ok' : Nat → Prop} {n : Nd} {s : Sh} (h : NodeIs w ok n s) (hs : ∀ k, ok k → ok' k) : NodeIs w ok' n s :=
  ⟨h.cd, h.decls.mono hs, h.ca, h.attrs.mono hs, h.ck, h.kids.mono hs⟩
theorem NodeIs.bound {w : World} {ok : Nat → Prop} {n : Nd} {s : Sh} (h : NodeIs w ok n s) : NodeIs w (fun k => ok k ∧ k < w.heap.size) n s :=
  ⟨h.cd, h.decls.bound, h.ca, h.attrs.bound, h.ck, h.kids.bound⟩
/-- The i-th node of a row, cell by cell. -/
theorem node_at {w : World} {ok : Nat → Prop} {A : Option Addr} {xs : List Nd} (h : Row Kd.node w ok A xs) (i : Nat) (hi : i < xs.length) :
    ∃ b o s, A = some ⟨b, o, none⟩ ∧ b < w.heap.size ∧ NodeIs w ok (xs[i]'hi) s ∧
      w.cell? ⟨b, o + i * 8, none⟩ = some (.int .i64 (xs[i]'hi).kind) ∧ w.cell? ⟨b, o + i * 8 + 1, none⟩ = some (.string (xs[i]'hi).pre) ∧ w.cell? ⟨b, o + i * 8 + 2, none⟩ = some (.string (xs[i]'hi).loc) ∧
      w.cell? ⟨b, o + i * 8 + 3, none⟩ = some (.string (xs[i]'hi).uri) ∧ w.cell? ⟨b, o + i * 8 + 4, none⟩ = some (.slice s.Ad (xs[i]'hi).decls.length s.cd) ∧ w.cell? ⟨b, o + i * 8 + 5, none⟩ = some (.slice s.Aa (xs[i]'hi).attrs.length s.ca) ∧
      w.cell? ⟨b, o + i * 8 + 6, none⟩ = some (.slice s.Ak (xs[i]'hi).kids.length s.ck) ∧ w.cell? ⟨b, o + i * 8 + 7, none⟩ = some (.string (xs[i]'hi).text) := by
  obtain ⟨b, o, cs, hA, hb, _, hk, hc⟩ := h.at_ i hi
  obtain ⟨s, rfl, hs⟩ := NodeK.is hk
  exact ⟨b, o, s, hA, hb, hs, hc 0 _ rfl, hc 1 _ rfl, hc 2 _ rfl, hc 3 _ rfl, hc 4 _ rfl, hc 5 _ rfl, hc 6 _ rfl, hc 7 _ rfl⟩
theorem dcl_at {w : World} {ok : Nat → Prop} {A : Option Addr} {xs : List Dcl} (h : Row Kd.dcl w ok A xs) (i : Nat) (hi : i < xs.length) :
    ∃ b o, A = some ⟨b, o, none⟩ ∧ b < w.heap.size ∧ w.cell? ⟨b, o + i * 2, none⟩ = some (.string (xs[i]'hi).pre) ∧ w.cell? ⟨b, o + i * 2 + 1, none⟩ = some (.string (xs[i]'hi).uri) := by
  obtain ⟨b, o, cs, hA, hb, _, hk, hc⟩ := h.at_ i hi
  have hk : cs = (xs[i]'hi).cells := hk
  subst hk
  exact ⟨b, o, hA, hb, hc 0 _ rfl, hc 1 _ rfl⟩
theorem atr_at {w : World} {ok : Nat → Prop} {A : Option Addr} {xs : List Atr} (h : Row Kd.atr w ok A xs) (i : Nat) (hi : i < xs.length) :
    ∃ b o, A = some ⟨b, o, none⟩ ∧ b < w.heap.size ∧ w.cell? ⟨b, o + i * 4, none⟩ = some (.string (xs[i]'hi).pre) ∧ w.cell? ⟨b, o + i * 4 + 1, none⟩ = some (.string (xs[i]'hi).loc) ∧
      w.cell? ⟨b, o + i * 4 + 2, none⟩ = some (.string (xs[i]'hi).uri) ∧ w.cell? ⟨b, o + i * 4 + 3, none⟩ = some (.string (xs[i]'hi).val) := by
  obtain ⟨b, o, cs, hA, hb, _, hk, hc⟩ := h.at_ i hi
  have hk : cs = (xs[i]'hi).cells := hk
  subst hk
  exact ⟨b, o, hA, hb, hc 0 _ rfl, hc 1 _ rfl, hc 2 _ rfl, hc 3 _ rfl⟩
/-- A parameter's box. -/
theorem boxed (w : World) (cs : Array Value) (T : TypeId) : ∃ W, W = w.alloc (.cells cs T) ∧ Below w.heap.size w W ∧ w.heap.size < W.heap.size ∧ W.heap[w.heap.size]? = some (.cells cs T (0, 0)) :=
  ⟨_, rfl, below_alloc (Below.refl _ _) _, by rw [World.alloc, Array.size_push]; omega, Array.getElem?_push_size⟩
theorem box_cells {W : World} {g : Nat} {a0 a1 a2 a3 a4 a5 a6 a7 : Value} {T : TypeId} (h : W.heap[g]? = some (.cells #[a0, a1, a2, a3, a4, a5, a6, a7] T (0, 0))) :
    W.cell? ⟨g, 0, none⟩ = some a0 ∧ W.cell? ⟨g, 1, none⟩ = some a1 ∧ W.cell? ⟨g, 2, none⟩ = some a2 ∧ W.cell? ⟨g, 3, none⟩ = some a3 ∧ W.cell? ⟨g, 4, none⟩ = some a4 ∧ W.cell? ⟨g, 5, none⟩ = some a5 ∧ W.cell? ⟨g, 6, none⟩ = some a6 ∧ W.cell? ⟨g, 7, none⟩ = some a7 :=
  ⟨cell_of_row W g 0 _ _ _ h, cell_of_row W g 1 _ _ _ h, cell_of_row W g 2 _ _ _ h, cell_of_row W g 3 _ _ _ h, cell_of_row W g 4 _ _ _ h, cell_of_row W g 5 _ _ _ h, cell_of_row W g 6 _ _ _ h, cell_of_row W g 7 _ _ _ h⟩
/-! ### how many -/
mutual
def cnt : Nd → Nat
  | ⟨_, _, _, _, _, attrs, kids, _⟩ => 1 + attrs.length + cntL kids
def cntL : List Nd → Nat
  | [] => 0
  | n :: r => cnt n + cntL r
end
theorem cnt_eq (n : Nd) : cnt n = 1 + n.attrs.length + cntL n.kids := by cases n; rw [cnt]
theorem cntL_snoc (l : List Nd) (n : Nd) : cntL (l ++ [n]) = cntL l + cnt n := by
  induction l with
  | nil => simp [cntL]
  | cons x l ih => simp [cntL, ih]; omega
theorem cntL_take (l : List Nd) (i : Nat) (h : i < l.length) : cntL (l.take (i + 1)) = cntL (l.take i) + cnt (l[i]'h) := by
  rw [List.take_succ_eq_append_getElem h, cntL_snoc]
theorem cntL_le (l : List Nd) (i : Nat) : cntL (l.take i) ≤ cntL l := by
  induction l generalizing i with
  | nil => simp
  | cons x l ih => cases i with
    | zero => simp [cntL]
    | succ i => simp [cntL]; exact ih i
theorem cnt_kid {n : Nd} {i : Nat} (h : i < n.kids.length) : cnt (n.kids[i]'h) < cnt n := by
  have h1 := cntL_take n.kids i h
  have h2 := cntL_le n.kids (i + 1)
  rw [cnt_eq n]
  omega
end Go.Proofs.YtpcklgkpjmmakaaGreatDoor
end
section
/- Rows that are laid out whole; ranges. No program here. -/
namespace Go.Proofs.YtpcklgkpjmmakaaGreatDoor
open Go.RowKit
set_option linter.unusedVariables false
theorem flat_get {α : Type} {n : Nat} {enc : α → List Value} (hn : ∀ x, (enc x).length = n) (xs : List α) (i : Nat) (hi : i < xs.length) (j : Nat) (hj : j < n) : (xs.flatMap enc)[i * n + j]? = (enc (xs[i]'hi))[j]? := by
  induction xs generalizing i with
  | nil => exact absurd hi (Nat.not_lt_zero _)
  | cons x xs ih =>
    rw [List.flatMap_cons]
    cases i with
    | zero => rw [Nat.zero_mul, Nat.zero_add, List.getElem?_append_left (by rw [hn]; exact hj)]; rfl
    | succ i =>
      rw [List.getElem?_append_right (by rw [hn, Nat.add_mul]; omega), hn, show (i + 1) * n + j - n = i * n + j from by rw [Nat.add_mul]; omega]
      exact ih i (by simpa using hi)
theorem row_flat {α : Type} {n : Nat} {enc : α → List Value} {hn : ∀ x, (enc x).length = n} {w : World} {ok : Nat → Prop} {T : TypeId} {cells : Array Value} (xs : List α) (hc : cells = (xs.flatMap enc).toArray) (hok : ok w.heap.size) (hm : xs.length ≤ maxLen) :
    Row (Kd.flat n enc hn) (w.alloc (.cells cells T (0, 0))) ok (some ⟨w.heap.size, 0, none⟩) xs := by
  refine ⟨hm, .inr ⟨_, _, rfl, hok, by rw [World.alloc, Array.size_push]; omega, fun i hi => ⟨_, rfl, fun j v hj => ?_⟩⟩⟩
  have hg : (w.alloc (.cells cells T (0, 0))).heap[w.heap.size]? = some (.cells cells T (0, 0)) := Array.getElem?_push_size
  rw [cell_of_row _ _ _ _ _ _ hg, hc]
  have hjn : j < n := by rw [← hn (xs[i]'hi)]; exact (List.getElem?_eq_some_iff.1 hj).1
  show (xs.flatMap enc).toArray[0 + i * n + j]? = some v
  rw [Nat.zero_add, List.getElem?_toArray, flat_get hn xs i hi j hjn, hj]
/-- Ranges. -/
def rgCells (r : Int × Int) : List Value := [.int .i64 r.1, .int .i64 r.2]
def Kd.rg : Kd (Int × Int) := Kd.flat 2 rgCells (fun _ => rfl)
def inR1 (n : Int) (r : Int × Int) : Bool := decide (r.1 ≤ n) && decide (n ≤ r.2)
def inR (n : Int) (rs : List (Int × Int)) : Bool := rs.any (inR1 n)
theorem rg_at {w : World} {ok : Nat → Prop} {A : Option Addr} {xs : List (Int × Int)} (h : Row Kd.rg w ok A xs) (i : Nat) (hi : i < xs.length) :
    ∃ b o, A = some ⟨b, o, none⟩ ∧ b < w.heap.size ∧ w.cell? ⟨b, o + i * 2, none⟩ = some (.int .i64 (xs[i]'hi).1) ∧ w.cell? ⟨b, o + i * 2 + 1, none⟩ = some (.int .i64 (xs[i]'hi).2) := by
  obtain ⟨b, o, cs, hA, hb, _, hk, hc⟩ := h.at_ i hi
  have hk : cs = rgCells (xs[i]'hi) := hk
  subst hk
  exact ⟨b, o, hA, hb, hc 0 _ rfl, hc 1 _ rfl⟩
/-- Every second is the end of a range. -/
def flatR (rs : List (Int × Int)) : List Int := rs.flatMap fun r => [r.1, r.2]
theorem flatR_length (rs : List (Int × Int)) : (flatR rs).length = 2 * rs.length := by
  induction rs with
  | nil => rfl
  | cons r rs ih => simp only [flatR, List.flatMap_cons, List.length_append, List.length_cons, List.length_nil] at *; omega
def signR : List (Int × Int) := [(9, 10), (13, 13), (32, 55295), (57344, 65533), (65536, 1114111)]
def startR : List (Int × Int) := [(65, 90), (95, 95), (97, 122), (192, 214), (216, 246), (248, 767), (880, 893), (895, 8191), (8204, 8205), (8304, 8591), (11264, 12271), (12289, 55295), (63744, 64975), (65008, 65533), (65536, 983039)]
def partR : List (Int × Int) := [(45, 46), (48, 57), (183, 183), (768, 879), (8255, 8256)]
def isSign (n : Int) : Bool := inR n signR
def isStart (n : Int) : Bool := inR n startR
def isPart (n : Int) : Bool := isStart n || inR n partR
def isBlank (n : Int) : Bool := n == 9 || n == 10 || n == 13 || n == 32
theorem isSign_spec (n : Int) : isSign n = (n == 9 || n == 10 || n == 13 || (decide (32 ≤ n) && decide (n ≤ 55295)) || (decide (57344 ≤ n) && decide (n ≤ 65533)) || (decide (65536 ≤ n) && decide (n ≤ 1114111))) := by
  rw [Bool.eq_iff_iff]
  simp only [isSign, inR, inR1, signR, List.any_cons, List.any_nil, Bool.or_eq_true, Bool.and_eq_true, decide_eq_true_eq, beq_iff_eq, Bool.or_false]
  omega
end Go.Proofs.YtpcklgkpjmmakaaGreatDoor
end
