/- Slices of parts: opened; contracts of bind.checked, ringref4.partsFault and bind.up; where parts begin (plain). -/
import Derived.Test.YtplfdibbnkjckaaBpA
import Derived.Test.YtplfdibbnkjckaaObB
import Derived.IntWalk
namespace Go.Proofs.Ytplfdibbnkjckaa
open Go.RowKit
set_option maxHeartbeats 400000
set_option linter.unusedVariables false
set_option linter.unusedSimpArgs false
def BNmFit (n : Nm) : Prop := (n.wh = 1 ∨ n.wh = 2) ∧ 0 ≤ n.ad ∧ n.ad ≤ 512
theorem bp_nmB_fit {lc ld : Nat} {n : Nm} (hc : lc ≤ 128) (hd : ld ≤ 256) (h : nmB lc ld n = true) : BNmFit n := by
  unfold nmB at h
  rw [Bool.and_eq_true, decide_eq_true_eq] at h
  obtain ⟨h1, h2, h3, _⟩ := h
  unfold sizeI at h3
  split at h3
  · rename_i e; exact ⟨.inl e, h2, by omega⟩
  · split at h3
    · rename_i e; exact ⟨.inr e, h2, by omega⟩
    · omega
theorem bp_nms_zero {lc ld : Nat} (hc : lc ≤ 128) (hd : ld ≤ 256) : ∀ (ns : List Nm) (seen : List (List UInt8)), nmsErr lc ld seen ns = 0 → ∀ n ∈ ns, BNmFit n
  | [], _, _, n, hn => by cases hn
  | m :: ns, seen, h, n, hn => by
    unfold nmsErr at h
    split at h
    · rename_i e
      split at h
      · cases h
      · rcases List.mem_cons.1 hn with rfl | hn
        · exact bp_nmB_fit hc hd e
        · exact bp_nms_zero hc hd ns _ h n hn
    · cases h
/-- A part without faults. -/
structure BFit (o : Ob) : Prop where
  n0 : o.n0 ≤ 128
  n1 : o.n1 ≤ 256
  n2 : o.n2 ≤ 24
  ns : ∀ n ∈ o.ns, BNmFit n
theorem bp_obj_zero (o : Ob) (h : objErr o = 0) : BFit o := by
  unfold objErr at h
  split at h
  · cases h
  · rename_i hb
    split at h
    · rename_i e
      exact ⟨by omega, by omega, by omega, bp_nms_zero (by omega) (by omega) _ _ e⟩
    · rename_i e; exact absurd h e
def Ob.zero : Ob := ⟨none, 0, 0, none, 0, 0, none, 0, 0, none, 0, 0, [], []⟩
def Ob.cells (o : Ob) : List Value := [.slice o.A0 o.n0 o.c0, .slice o.A1 o.n1 o.c1, .slice o.A2 o.n2 o.c2, .slice o.A3 o.n3 o.c3]
structure Ob.Fine (o : Ob) (w : World) (B : Nat) : Prop where
  rd : o.Read w B
  hc : o.n2 ≤ o.c2
  hm : o.c2 ≤ 9223372036854775807
theorem Ob.Fine.below' {o : Ob} {w w' : World} {B B' : Nat} (h : o.Fine w B) (hb : Below B' w w') (hB : B ≤ B') : o.Fine w' B := ⟨h.rd.below' hb hB, h.hc, h.hm⟩
/-- A slice of parts. -/
def RO (w : World) (B : Nat) (A : Option Addr) (n : Nat) (os : List Ob) : Prop := RS Ob.cells 4 w B A n os ∧ ∀ o ∈ os, o.Fine w B
theorem RO.below' {w w' : World} {B B' n : Nat} {A : Option Addr} {os : List Ob} (h : RO w B A n os) (hb : Below B' w w') (hB : B ≤ B') : RO w' B A n os := ⟨h.1.below' hb hB, fun o ho => (h.2 o ho).below' hb hB⟩
theorem RO.len {w : World} {B n : Nat} {A : Option Addr} {os : List Ob} (h : RO w B A n os) : os.length = n := h.1.2
theorem RO.at_ {w : World} {B n i : Nat} {A : Option Addr} {os : List Ob} (h : RO w B A n os) (hi : i < n) :
    ∃ b o x, A = some ⟨b, o, none⟩ ∧ b < B ∧ os[i]? = some x ∧ os.getD i .zero = x ∧ x.Fine w B ∧ w.cell? ⟨b, o + i * 4, none⟩ = some (.slice x.A0 x.n0 x.c0) ∧ w.cell? ⟨b, o + i * 4 + 1, none⟩ = some (.slice x.A1 x.n1 x.c1) ∧ w.cell? ⟨b, o + i * 4 + 2, none⟩ = some (.slice x.A2 x.n2 x.c2) ∧ w.cell? ⟨b, o + i * 4 + 3, none⟩ = some (.slice x.A3 x.n3 x.c3) := by
  obtain ⟨b, o, e, hb, hm, hc⟩ := RS.at_ (cl := Ob.cells) (s := 4) (fun _ => rfl) Ob.zero h.1 hi
  have hl : i < os.length := by rw [h.len]; exact hi
  refine ⟨b, o, os.getD i .zero, e, hb, ?_, rfl, h.2 _ hm, hc 0 _ rfl, hc 1 _ rfl, hc 2 _ rfl, hc 3 _ rfl⟩
  simp [List.getD, List.getElem?_eq_getElem hl]
def firstErr : List Ob → Int
  | [] => 0
  | o :: os => if objErr o = 0 then firstErr os else objErr o
def partsErr (os : List Ob) : Int := if 12 < os.length then 2 else firstErr os
theorem first_step {os : List Ob} {k : Nat} {x : Ob} (h : os[k]? = some x) : firstErr (os.drop k) = if objErr x = 0 then firstErr (os.drop (k + 1)) else objErr x := by
  obtain ⟨hk, rfl⟩ := List.getElem?_eq_some_iff.1 h
  rw [List.drop_eq_getElem_cons hk, firstErr]
theorem first_zero : ∀ {os : List Ob}, firstErr os = 0 → ∀ o ∈ os, objErr o = 0
  | [], _, o, ho => by cases ho
  | m :: os, h, o, ho => by
    unfold firstErr at h
    split at h
    · rename_i e
      rcases List.mem_cons.1 ho with rfl | ho
      · exact e
      · exact first_zero h o ho
    · rename_i e; exact absurd h e
theorem parts_zero {os : List Ob} (h : partsErr os = 0) : os.length ≤ 12 ∧ ∀ o ∈ os, BFit o := by
  unfold partsErr at h
  split at h
  · cases h
  · exact ⟨by omega, fun o ho => bp_obj_zero o (first_zero h o ho)⟩
set_option maxHeartbeats 1000000 in
set_option maxRecDepth 100000 in
theorem checked_any (hchk : ∀ (o : Ob) (w : World) (B : Nat), o.Read w B → B ≤ w.heap.size → Calls Try.prog 15 #[.agg o.vals] w (ErrPost w (objErr o)))
    (A : Option Addr) (n c : Nat) (os : List Ob) (w : World) (B : Nat) (h : RO w B A n os) (hB : B ≤ w.heap.size) (hn : n ≤ 9223372036854775807) : Calls Try.prog 9 #[.slice A n c] w (ErrPost w (partsErr os)) := by
  have HL := Lib.hid h.len
  by_cases hbig : 12 < n
  · have e : Hid (partsErr os = 2) := Lib.hid (by unfold partsErr; rw [HL.out, if_pos hbig])
    go_enter Try.func9, Try.ntmps9
    go_wp2
    go_ret
    exact ⟨ob_int e.out.symm, Below.refl _ _⟩
  have e : Hid (partsErr os = firstErr os) := Lib.hid (by unfold partsErr; rw [HL.out, if_neg hbig])
  go_enter Try.func9, Try.ntmps9
  go_wp2
  go_loopw [11] (fun i wr => ∃ k : Nat, k ≤ n ∧ i = .int .i64 k ∧ Hid (partsErr os = firstErr (os.drop k)) ∧ Below w.heap.size w wr) (fun i _ => n - (intOf i).toNat)
  case atStart => exact ⟨0, by omega, rfl, e, Below.refl _ _⟩
  case round =>
    obtain ⟨k, hk, rfl, hrest, hbw⟩ := hrel
    have hsize := hbw.size
    by_cases hlt : k < n
    · obtain ⟨b, o, x, rfl, hb, hx, _, hfine, z0, z1, z2, z3⟩ := (h.below' hbw hB).at_ hlt
      have hst := Lib.hid (hrest.out.trans (first_step hx))
      have HC := Lib.hid (fun W hb => hchk x W B (hfine.rd.below' hb (Nat.le_refl _)))
      have HB : Hid (Below w.heap.size w (wr.alloc (.cells #[.slice x.A0 x.n0 x.c0, .slice x.A1 x.n1 x.c1, .slice x.A2 x.n2 x.c2, .slice x.A3 x.n3 x.c3] 37))) := Lib.hid (hbw.alloc hsize _)
      have hbr : Below B wr (wr.alloc (.cells #[.slice x.A0 x.n0 x.c0, .slice x.A1 x.n1 x.c1, .slice x.A2 x.n2 x.c2, .slice x.A3 x.n3 x.c3] 37)) := (Below.refl _ _).alloc (by omega) _
      have HBR := Lib.hid hbr
      clear hfine hrest hbr
      unfold ErrPost Ob.vals at HC
      generalize objErr x = E at *
      obtain ⟨A0, n0, c0, A1, n1, c1, A2, n2, c2, A3, n3, c3, ns, ds⟩ := x
      dsimp only at z0 z1 z2 z3 HC HB HBR
      go_wp2_with fail
      refine (HC.out _ HBR.out (by simp; omega)).mono ?_
      rintro e w3 ⟨rfl, hb3⟩
      have hbw3 := HB.out.trans (hb3.mono HB.out.size)
      clear hb3
      by_cases hE : E = 0
      · subst hE
        have hs2 : Hid (partsErr os = firstErr (os.drop (k + 1))) := Lib.hid (by rw [hst.out, if_pos rfl])
        go_wp2
        go_roundw
        case rel => exact ⟨k + 1, by omega, by go_num, hs2, hbw3⟩
        case measure => simp [intOf]; omega
      · have hs2 : Hid (partsErr os = E) := Lib.hid (by rw [hst.out, if_neg hE])
        have d : (E != 0) = true := by simpa using hE
        clear hE
        go_wp2
        go_ret
        exact ⟨ob_int hs2.out.symm, hbw3⟩
    · obtain rfl : k = n := by omega
      have e : Hid (partsErr os = 0) := Lib.hid (by rw [hrest.out, List.drop_eq_nil_of_le (by rw [HL.out]; exact Nat.le_refl _)]; rfl)
      go_wp2
      go_ret
      exact ⟨ob_int e.out.symm, hbw⟩
set_option maxHeartbeats 1000000 in
set_option maxRecDepth 100000 in
theorem partsFault_any (hchk : ∀ (o : Ob) (w : World) (B : Nat), o.Read w B → B ≤ w.heap.size → o.n2 ≤ o.c2 → o.c2 ≤ 9223372036854775807 → Calls Try.prog 16 #[.agg o.vals] w (ErrPost w (objErr o)))
    (A : Option Addr) (n c : Nat) (os : List Ob) (w : World) (B : Nat) (h : RO w B A n os) (hB : B ≤ w.heap.size) (hn : n ≤ 9223372036854775807) : Calls Try.prog 10 #[.slice A n c] w (ErrPost w (partsErr os)) := by
  have HL := Lib.hid h.len
  by_cases hbig : 12 < n
  · have e : Hid (partsErr os = 2) := Lib.hid (by unfold partsErr; rw [HL.out, if_pos hbig])
    go_enter Try.func10, Try.ntmps10
    go_wp2
    go_ret
    exact ⟨ob_int e.out.symm, Below.refl _ _⟩
  have e : Hid (partsErr os = firstErr os) := Lib.hid (by unfold partsErr; rw [HL.out, if_neg hbig])
  go_enter Try.func10, Try.ntmps10
  go_wp2
  go_loopw [11] (fun i wr => ∃ k : Nat, k ≤ n ∧ i = .int .i64 k ∧ Hid (partsErr os = firstErr (os.drop k)) ∧ Below w.heap.size w wr) (fun i _ => n - (intOf i).toNat)
  case atStart => exact ⟨0, by omega, rfl, e, Below.refl _ _⟩
  case round =>
    obtain ⟨k, hk, rfl, hrest, hbw⟩ := hrel
    have hsize := hbw.size
    by_cases hlt : k < n
    · obtain ⟨b, o, x, rfl, hb, hx, _, hfine, z0, z1, z2, z3⟩ := (h.below' hbw hB).at_ hlt
      have hst := Lib.hid (hrest.out.trans (first_step hx))
      have HC := Lib.hid (fun W hb hs => hchk x W B (hfine.rd.below' hb (Nat.le_refl _)) hs hfine.hc hfine.hm)
      have HB : Hid (Below w.heap.size w (wr.alloc (.cells #[.slice x.A0 x.n0 x.c0, .slice x.A1 x.n1 x.c1, .slice x.A2 x.n2 x.c2, .slice x.A3 x.n3 x.c3] 37))) := Lib.hid (hbw.alloc hsize _)
      have hbr : Below B wr (wr.alloc (.cells #[.slice x.A0 x.n0 x.c0, .slice x.A1 x.n1 x.c1, .slice x.A2 x.n2 x.c2, .slice x.A3 x.n3 x.c3] 37)) := (Below.refl _ _).alloc (by omega) _
      have HBR := Lib.hid hbr
      clear hfine hrest hbr
      unfold ErrPost Ob.vals at HC
      generalize objErr x = E at *
      obtain ⟨A0, n0, c0, A1, n1, c1, A2, n2, c2, A3, n3, c3, ns, ds⟩ := x
      dsimp only at z0 z1 z2 z3 HC HB HBR
      go_wp2_with fail
      refine (HC.out _ HBR.out (by simp; omega)).mono ?_
      rintro e w3 ⟨rfl, hb3⟩
      have hbw3 := HB.out.trans (hb3.mono HB.out.size)
      clear hb3
      by_cases hE : E = 0
      · subst hE
        have hs2 : Hid (partsErr os = firstErr (os.drop (k + 1))) := Lib.hid (by rw [hst.out, if_pos rfl])
        go_wp2
        go_roundw
        case rel => exact ⟨k + 1, by omega, by go_num, hs2, hbw3⟩
        case measure => simp [intOf]; omega
      · have hs2 : Hid (partsErr os = E) := Lib.hid (by rw [hst.out, if_neg hE])
        have d : (E != 0) = true := by simpa using hE
        clear hE
        go_wp2
        go_ret
        exact ⟨ob_int hs2.out.symm, hbw3⟩
    · obtain rfl : k = n := by omega
      have e : Hid (partsErr os = 0) := Lib.hid (by rw [hrest.out, List.drop_eq_nil_of_le (by rw [HL.out]; exact Nat.le_refl _)]; rfl)
      go_wp2
      go_ret
      exact ⟨ob_int e.out.symm, hbw⟩
end Go.Proofs.Ytplfdibbnkjckaa
