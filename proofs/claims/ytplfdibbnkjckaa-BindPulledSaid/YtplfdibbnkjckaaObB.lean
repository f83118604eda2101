/- Parts of programs (obj.Object): what may be one; contracts of size and obj.Check. -/
import Derived.Test.YtplfdibbnkjckaaObA
import Derived.Test.YtplfdibbnkjckaaMapF
import Derived.Deep.RegionLaw
namespace Go.Proofs.Ytplfdibbnkjckaa
open Go.RowKit
set_option maxHeartbeats 400000
set_option linter.unusedVariables false
set_option linter.unusedSimpArgs false
/-- A name. -/
structure Nm where
  s : ByteArray
  wh : Int
  ad : Int
  wk : Bool
def Nm.cells (n : Nm) : List Value := [.string n.s, .int .i64 n.wh, .int .i64 n.ad, .bool n.wk]
def Nm.zero : Nm := ⟨ByteArray.empty, 0, 0, false⟩
def Nm.key (n : Nm) : List UInt8 := n.s.data.toList
def Nm.fine (n : Nm) : Prop := n.s.size ≤ 9223372036854775807 ∧ (Lit.int .i64 n.wh).wf = true ∧ (Lit.int .i64 n.ad).wf = true
/-- A need. -/
structure Nd where
  ad : Int
  s : ByteArray
  k : Int
def Nd.cells (n : Nd) : List Value := [.int .i64 n.ad, .string n.s, .int .i64 n.k]
def Nd.zero : Nd := ⟨0, ByteArray.empty, 0⟩
def Nd.fine (n : Nd) : Prop := n.s.size ≤ 9223372036854775807 ∧ (Lit.int .i64 n.ad).wf = true ∧ (Lit.int .i64 n.k).wf = true
def RN (w : World) (B : Nat) (A : Option Addr) (n : Nat) (ns : List Nm) : Prop := RS Nm.cells 4 w B A n ns ∧ ∀ x ∈ ns, x.fine
def RD (w : World) (B : Nat) (A : Option Addr) (n : Nat) (ns : List Nd) : Prop := RS Nd.cells 3 w B A n ns ∧ ∀ x ∈ ns, x.fine
theorem RN.below' {w w' : World} {B B' n : Nat} {A : Option Addr} {ns : List Nm} (h : RN w B A n ns) (hb : Below B' w w') (hB : B ≤ B') : RN w' B A n ns := ⟨h.1.below' hb hB, h.2⟩
theorem RD.below' {w w' : World} {B B' n : Nat} {A : Option Addr} {ns : List Nd} (h : RD w B A n ns) (hb : Below B' w w') (hB : B ≤ B') : RD w' B A n ns := ⟨h.1.below' hb hB, h.2⟩
theorem RN.len {w : World} {B n : Nat} {A : Option Addr} {ns : List Nm} (h : RN w B A n ns) : ns.length = n := h.1.2
theorem RD.len {w : World} {B n : Nat} {A : Option Addr} {ns : List Nd} (h : RD w B A n ns) : ns.length = n := h.1.2
theorem RN.at_ {w : World} {B n i : Nat} {A : Option Addr} {ns : List Nm} (h : RN w B A n ns) (hi : i < n) :
    ∃ b o, A = some ⟨b, o, none⟩ ∧ b < B ∧ (ns.getD i .zero).fine ∧ w.cell? ⟨b, o + i * 4, none⟩ = some (.string (ns.getD i .zero).s) ∧ w.cell? ⟨b, o + i * 4 + 1, none⟩ = some (.int .i64 (ns.getD i .zero).wh) ∧ w.cell? ⟨b, o + i * 4 + 2, none⟩ = some (.int .i64 (ns.getD i .zero).ad) ∧ w.cell? ⟨b, o + i * 4 + 3, none⟩ = some (.bool (ns.getD i .zero).wk) := by
  obtain ⟨b, o, e, hb, hm, hc⟩ := RS.at_ (cl := Nm.cells) (s := 4) (fun _ => rfl) Nm.zero h.1 hi
  exact ⟨b, o, e, hb, h.2 _ hm, hc 0 _ rfl, hc 1 _ rfl, hc 2 _ rfl, hc 3 _ rfl⟩
theorem RD.at_ {w : World} {B n i : Nat} {A : Option Addr} {ns : List Nd} (h : RD w B A n ns) (hi : i < n) :
    ∃ b o, A = some ⟨b, o, none⟩ ∧ b < B ∧ (ns.getD i .zero).fine ∧ w.cell? ⟨b, o + i * 3, none⟩ = some (.int .i64 (ns.getD i .zero).ad) ∧ w.cell? ⟨b, o + i * 3 + 1, none⟩ = some (.string (ns.getD i .zero).s) ∧ w.cell? ⟨b, o + i * 3 + 2, none⟩ = some (.int .i64 (ns.getD i .zero).k) := by
  obtain ⟨b, o, e, hb, hm, hc⟩ := RS.at_ (cl := Nd.cells) (s := 3) (fun _ => rfl) Nd.zero h.1 hi
  exact ⟨b, o, e, hb, h.2 _ hm, hc 0 _ rfl, hc 1 _ rfl, hc 2 _ rfl⟩
/-- An object. -/
structure Ob where
  A0 : Option Addr
  n0 : Nat
  c0 : Nat
  A1 : Option Addr
  n1 : Nat
  c1 : Nat
  A2 : Option Addr
  n2 : Nat
  c2 : Nat
  A3 : Option Addr
  n3 : Nat
  c3 : Nat
  ns : List Nm
  ds : List Nd
def Ob.vals (o : Ob) : Array Value := #[.slice o.A0 o.n0 o.c0, .slice o.A1 o.n1 o.c1, .slice o.A2 o.n2 o.c2, .slice o.A3 o.n3 o.c3]
/-- What is read of it when it is checked. -/
structure Ob.Read (o : Ob) (w : World) (B : Nat) : Prop where
  ns : RN w B o.A2 o.n2 o.ns
  ds : RD w B o.A3 o.n3 o.ds
  m0 : o.n0 ≤ 9223372036854775807
  m1 : o.n1 ≤ 9223372036854775807
  m2 : o.n2 ≤ 9223372036854775807
  m3 : o.n3 ≤ 9223372036854775807
theorem Ob.Read.below' {o : Ob} {w w' : World} {B B' : Nat} (h : o.Read w B) (hb : Below B' w w') (hB : B ≤ B') : o.Read w' B := ⟨h.ns.below' hb hB, h.ds.below' hb hB, h.m0, h.m1, h.m2, h.m3⟩
def sizeI (lc ld : Nat) (wh : Int) : Int := if wh = 1 then 4 * (lc : Int) else if wh = 2 then (ld : Int) else -1
def nmB (lc ld : Nat) (n : Nm) : Bool := nameB (nums n.s) && decide (0 ≤ n.ad ∧ n.ad ≤ sizeI lc ld n.wh ∧ (n.wh = 1 → n.ad % 4 = 0))
def nmsErr (lc ld : Nat) : List (List UInt8) → List Nm → Int
  | _, [] => 0
  | seen, n :: ns => if nmB lc ld n = true then (if seen.contains n.key = true then 5 else nmsErr lc ld (seen ++ [n.key]) ns) else 3
def ndB (lc : Nat) (last : Int) (n : Nd) : Bool := nameB (nums n.s) && decide (1 ≤ n.k ∧ n.k ≤ 3 ∧ 0 ≤ n.ad ∧ n.ad < 4 * (lc : Int) ∧ n.ad % 4 = 0 ∧ last < n.ad)
def ndsErr (lc : Nat) : Int → List Nd → Int
  | _, [] => 0
  | last, n :: ns => if ndB lc last n = true then ndsErr lc n.ad ns else 3
def objErr (o : Ob) : Int := if 128 < o.n0 ∨ 256 < o.n1 ∨ 24 < o.n2 ∨ 40 < o.n3 then 2 else if nmsErr o.n0 o.n1 [] o.ns = 0 then ndsErr o.n0 (-1) o.ds else nmsErr o.n0 o.n1 [] o.ns
def keysTo (ns : List Nm) (k : Nat) : List (List UInt8) := (ns.take k).map Nm.key
theorem keysTo_succ {ns : List Nm} {k : Nat} (h : k < ns.length) : keysTo ns (k + 1) = keysTo ns k ++ [(ns.getD k .zero).key] := by
  unfold keysTo
  have e : ns.getD k .zero = ns[k] := by simp [List.getD, List.getElem?_eq_getElem h]
  rw [List.take_succ_eq_append_getElem h, List.map_append, e]
  rfl
theorem nms_step {lc ld : Nat} {ns : List Nm} {k : Nat} (h : k < ns.length) : nmsErr lc ld (keysTo ns k) (ns.drop k) = if nmB lc ld (ns.getD k .zero) = true then (if (keysTo ns k).contains (ns.getD k .zero).key = true then 5 else nmsErr lc ld (keysTo ns (k + 1)) (ns.drop (k + 1))) else 3 := by
  rw [List.drop_eq_getElem_cons h, nmsErr, keysTo_succ h]
  simp [List.getD, List.getElem?_eq_getElem h]
def lastTo (ds : List Nd) (k : Nat) : Int := if k = 0 then -1 else (ds.getD (k - 1) .zero).ad
theorem nds_step {lc : Nat} {ds : List Nd} {k : Nat} (h : k < ds.length) : ndsErr lc (lastTo ds k) (ds.drop k) = if ndB lc (lastTo ds k) (ds.getD k .zero) = true then ndsErr lc (lastTo ds (k + 1)) (ds.drop (k + 1)) else 3 := by
  have e : ds.getD k .zero = ds[k] := by simp [List.getD, List.getElem?_eq_getElem h]
  have e2 : lastTo ds (k + 1) = ds[k].ad := by unfold lastTo; rw [if_neg (by omega), Nat.add_sub_cancel, e]
  rw [List.drop_eq_getElem_cons h, ndsErr, e, e2]
def SameP (x : Int) (w : World) (e : Ending) (w' : World) : Prop := e = .returned (.int .i64 x) ∧ w' = w
set_option maxRecDepth 100000 in
theorem size_any (o : Ob) (g : Nat) (wh : Int) (w : World) (h : Blk w g o.vals 37) (h0 : o.n0 ≤ 128) : Calls Try.prog 22 #[.pointer (some ⟨g, 0, none⟩), .int .i64 wh] w (SameP (sizeI o.n0 o.n1 wh) w) := by
  obtain ⟨A0, n0, c0, A1, n1, c1, A2, n2, c2, A3, n3, c3, ns, ds⟩ := o
  dsimp only [Ob.vals] at h h0
  have hc := h.cell
  by_cases h1 : wh = 1
  · subst h1
    go_enter Try.func22, Try.ntmps22
    go_wp2
    go_ret
    exact ⟨rfl, rfl⟩
  · have d1 : (wh == 1) = false := by simpa using h1
    by_cases h2 : wh = 2
    · have e : Hid (sizeI n0 n1 wh = n1) := Lib.hid (by unfold sizeI; rw [if_neg h1, if_pos h2])
      subst h2
      go_enter Try.func22, Try.ntmps22
      go_wp2
      go_ret
      exact ⟨ob_int e.out.symm, rfl⟩
    · have d2 : (wh == 2) = false := by simpa using h2
      have e : Hid (sizeI n0 n1 wh = -1) := Lib.hid (by unfold sizeI; rw [if_neg h1, if_neg h2])
      clear h1 h2
      go_enter Try.func22, Try.ntmps22
      go_wp2
      go_ret
      exact ⟨ob_int e.out.symm, rfl⟩
theorem name_is {b : Bool} (s : ByteArray) (w : World) (hs : s.size ≤ 9223372036854775807) (h : nameB (nums s) = b) : Calls Try.prog 21 #[.string s] w fun e w' => e = .returned (.bool b) ∧ w' = w := h ▸ name_any s w hs
theorem size_is {x : Int} (o : Ob) (g : Nat) (wh : Int) (w : World) (h : Blk w g o.vals 37) (h0 : o.n0 ≤ 128) (hx : sizeI o.n0 o.n1 wh = x) : Calls Try.prog 22 #[.pointer (some ⟨g, 0, none⟩), .int .i64 wh] w fun e w' => e = .returned (.int .i64 x) ∧ w' = w := hx ▸ size_any o g wh w h h0
theorem zero4 (w : World) : (zeroValue 4).run Try.prog w = .ok (.bool false) w := by kernel_rfl
def ErrPost (w : World) (x : Int) (e : Ending) (w' : World) : Prop := e = .returned (.int .i64 x) ∧ Below w.heap.size w w'
theorem obj_big {o : Ob} (h : 128 < o.n0 ∨ 256 < o.n1 ∨ 24 < o.n2 ∨ 40 < o.n3) : objErr o = 2 := by unfold objErr; rw [if_pos h]
set_option maxRecDepth 100000 in
theorem check_big (o : Ob) (w : World) (B : Nat) (h : o.Read w B) (hb : 128 < o.n0 ∨ 256 < o.n1 ∨ 24 < o.n2 ∨ 40 < o.n3) : Calls Try.prog 15 #[.agg o.vals] w (ErrPost w (objErr o)) := by
  have H := Lib.hid (obj_big hb)
  obtain ⟨A0, n0, c0, A1, n1, c1, A2, n2, c2, A3, n3, c3, ns, ds⟩ := o
  dsimp only at hb
  obtain ⟨_, _, m0, m1, m2, m3⟩ := h
  dsimp only at m0 m1 m2 m3
  unfold Ob.vals
  by_cases h0 : 128 < n0
  · go_enter Try.func15, Try.ntmps15
    go_wp2
    go_ret
    exact ⟨ob_int H.out.symm, (Below.refl _ _).alloc (Nat.le_refl _) _⟩
  by_cases h1 : 256 < n1
  · go_enter Try.func15, Try.ntmps15
    go_wp2
    go_ret
    exact ⟨ob_int H.out.symm, (Below.refl _ _).alloc (Nat.le_refl _) _⟩
  by_cases h2 : 24 < n2
  · go_enter Try.func15, Try.ntmps15
    go_wp2
    go_ret
    exact ⟨ob_int H.out.symm, (Below.refl _ _).alloc (Nat.le_refl _) _⟩
  have h3 : 40 < n3 := by omega
  go_enter Try.func15, Try.ntmps15
  go_wp2
  go_ret
  exact ⟨ob_int H.out.symm, (Below.refl _ _).alloc (Nat.le_refl _) _⟩
theorem below_drewN {B : Nat} {w w' : World} (h : Below B w w') (n : Nat) : Below B w (w'.drewN n) := ⟨h.os, h.tape, h.output, h.size, h.block⟩
end Go.Proofs.Ytplfdibbnkjckaa
