/- One end of a stream: contracts of New, Call, Listen, Tell, Ended. -/
import Derived.Test.YthlhjaacjhlkhaaStC
namespace Go.Proofs.Ythlhjaacjhlkhaa
open Go.RowKit
set_option maxHeartbeats 400000
set_option linter.unusedVariables false
set_option linter.unusedSimpArgs false
def ex0 : EC := ⟨0, 0, 0, 0, 0, 0, 0, false, false, false, 0, 0⟩
def exB (st iss : Int) : EC := ⟨st, iss, iss, iss, (iss + 1) % 4294967296, 0, 0, false, false, false, 0, 0⟩
theorem st_drewN {B : Nat} {w w' : World} (h : Below B w w') (n : Nat) : Below B w (w'.drewN n) := ⟨h.os, h.tape, h.output, h.size, h.block⟩
theorem ob0 (w : World) (B : Nat) (t : TypeId) (cs : Value → Value → Array Value) (hB : B ≤ w.heap.size) : Ob2 (w.alloc (.cells (cs (.slice none 0 0) (.slice none 0 0)) t)) B w.heap.size t cs (.slice none 0 0) (.slice none 0 0) [] [] where
  blk := Blk.new w _ t
  ro := Row.nil _ _ _ _
  ri := Row.nil _ _ _ _
  bo := fun x hx => by cases hx
  bi := fun x hx => by cases hx
  dis := fun k hk => by simp [Value.ownBlock] at hk
  no := by simp [Value.ownBlock]
  ni := by simp [Value.ownBlock]
  low := hB
set_option maxRecDepth 100000 in
theorem new37 (w : World) : Calls Try.prog 37 #[] w fun e w' => e = .returned (.pointer (some ⟨w.heap.size, 0, none⟩)) ∧ w' = w.alloc (.cells (ecells ex0 (.slice none 0 0) (.slice none 0 0)) 128) := by
  go_enter Try.func37, Try.ntmps37
  go_wp2
  go_ret
  exact ⟨rfl, rfl⟩
section
variable {w : World} {B g : Nat} {x : EC} {vo vi : Value} {xs ys : List Int}
set_option maxRecDepth 100000 in
theorem begin_bad (h : ESt w B g x vo vi xs ys) (hs : x.st ≠ 0) (st iss : Int) : Calls Try.prog 92 #[.pointer (some ⟨g, 0, none⟩), .int .i64 st, .int .u32 iss] w fun e w' => e = .returned (.int .i64 8) ∧ w = w' := by
  have hc := (Ob2.blk h).cell 0
  rw [show (ecells x vo vi)[0]? = some (.int .i64 x.st) from rfl] at hc
  have d1 : (x.st != 0) = true := by simpa using hs
  generalize x.st = s at *
  clear h hs
  go_enter Try.func92, Try.ntmps92
  go_wp2
  go_ret
  exact ⟨rfl, rfl⟩
set_option maxRecDepth 100000 in
theorem begin_ok (h : ESt w B g ex0 vo vi xs ys) (st iss : Int) (hi : 0 ≤ iss ∧ iss < 4294967296) (hB : B ≤ w.heap.size) : Calls Try.prog 92 #[.pointer (some ⟨g, 0, none⟩), .int .i64 st, .int .u32 iss] w fun e w' => e = .returned (.int .i64 0) ∧ ESt w' B g (exB st iss) (.slice none 0 0) (.slice none 0 0) [] [] ∧ Fr (fun k => k = g) w w' := by
  have hc := (Ob2.blk h).cell
  have hf := (Ob2.blk h).free
  have hlt := (Ob2.blk h).lt
  have HG := Lib.hid h
  clear h
  dsimp only [ecells, ex0] at hc
  go_enter Try.func92, Try.ntmps92
  go_wp2
  go_ret
  refine ⟨rfl, ⟨?_, Row.nil _ _ _ _, Row.nil _ _ _ _, fun x hx => (by cases hx), fun x hx => (by cases hx), fun k hk => (by simp [Value.ownBlock] at hk), by simp [Value.ownBlock], by simp [Value.ownBlock], HG.out.low⟩, ?_⟩
  · have hb := ((((((((((((((HG.out.blk.set 0 (.int .i64 st)).set 1 (.int .u32 iss)).set 2 (.int .u32 iss)).set 3 (.int .u32 iss)).set 4 (.int .u32 ((iss + 1) % 4294967296))).set 5 (.int .u32 0)).set 6 (.slice none 0 0)).set 7 (.slice none 0 0)).set 8 (.int .i64 0)).set 9 (.bool false)).set 10 (.bool false)).set 11 (.bool false)).set 12 (.int .i64 0)).set 13 (.int .i64 0))
    simpa [ecells, exB, ex0] using hb
  · exact (((((((((((((((Fr.refl (fun k => k = g) w).setCell (p := ⟨g, 0, none⟩) (fun _ => rfl) (.int .i64 st)).setCell (p := ⟨g, 1, none⟩) (fun _ => rfl) (.int .u32 iss)).setCell (p := ⟨g, 2, none⟩) (fun _ => rfl) (.int .u32 iss)).setCell (p := ⟨g, 3, none⟩) (fun _ => rfl) (.int .u32 iss)).setCell (p := ⟨g, 4, none⟩) (fun _ => rfl) (.int .u32 ((iss + 1) % 4294967296))).setCell (p := ⟨g, 5, none⟩) (fun _ => rfl) (.int .u32 0)).setCell (p := ⟨g, 6, none⟩) (fun _ => rfl) (.slice none 0 0)).setCell (p := ⟨g, 7, none⟩) (fun _ => rfl) (.slice none 0 0)).setCell (p := ⟨g, 8, none⟩) (fun _ => rfl) (.int .i64 0)).setCell (p := ⟨g, 9, none⟩) (fun _ => rfl) (.bool false)).setCell (p := ⟨g, 10, none⟩) (fun _ => rfl) (.bool false)).setCell (p := ⟨g, 11, none⟩) (fun _ => rfl) (.bool false)).setCell (p := ⟨g, 12, none⟩) (fun _ => rfl) (.int .i64 0)).setCell (p := ⟨g, 13, none⟩) (fun _ => rfl) (.int .i64 0))
set_option maxRecDepth 100000 in
theorem tell54 (h : ESt w B g x vo vi xs ys) : Calls Try.prog 54 #[.pointer (some ⟨g, 0, none⟩)] w fun e w' => e = .returned (.tuple #[.int .i64 x.st, .int .i64 xs.length, .int .i64 ys.length]) ∧ Below w.heap.size w w' := by
  obtain ⟨A, c, A', c', rfl, rfl, h1, h2, h3, h4⟩ := h.look
  have hc := (Ob2.blk h).cell
  have hlt := (Ob2.blk h).lt
  dsimp only [ecells] at hc
  clear h
  generalize x.st = s at *
  go_enter Try.func54, Try.ntmps54
  go_wp2
  go_quiet (fail)
  go_wp2
  go_ret3
  exact ⟨rfl, st_drewN (Below.refl _ _) _⟩
def allX (x : EC) (n : Nat) : Bool := x.shut && decide (n = 0) && decide (x.una = (x.first + 1) % 4294967296) && decide (x.st = 4)
set_option maxRecDepth 100000 in
theorem ended55 (h : ESt w B g x vo vi xs ys) : Calls Try.prog 55 #[.pointer (some ⟨g, 0, none⟩)] w fun e w' => e = .returned (.tuple #[.bool x.fin, .bool (allX x xs.length)]) ∧ Below w.heap.size w w' := by
  obtain ⟨A, c, A', c', rfl, rfl, h1, h2, h3, h4⟩ := h.look
  have hc := (Ob2.blk h).cell
  have hlt := (Ob2.blk h).lt
  dsimp only [ecells] at hc
  clear h
  unfold allX
  obtain ⟨s, una, nxt, top, first, rcv, peer, shut, fin, due, wait, tries⟩ := x
  dsimp only at *
  cases shut with
  | false =>
    simp only [Bool.false_and]
    go_enter Try.func55, Try.ntmps55
    go_wp2
    go_quiet (fail)
    go_wp2
    go_ret2
    exact ⟨rfl, st_drewN (Below.refl _ _) _⟩
  | true =>
    by_cases hn : xs.length = 0
    rotate_left
    · have d1 : ((xs.length : Int) == 0) = false := by simpa using hn
      simp only [decide_eq_false hn, Bool.true_and, Bool.false_and]
      generalize xs.length = n at *
      clear hn
      go_enter Try.func55, Try.ntmps55
      go_wp2
      go_quiet (fail)
      go_wp2
      go_ret2
      exact ⟨rfl, st_drewN (Below.refl _ _) _⟩
    have d1 : ((xs.length : Int) == 0) = true := by simpa using hn
    simp only [decide_eq_true hn, Bool.true_and]
    generalize xs.length = n at *
    clear hn
    by_cases hu : una = (first + 1) % 4294967296
    rotate_left
    · have d2 : (una == (first + 1) % 4294967296) = false := by simpa using hu
      simp only [decide_eq_false hu, Bool.false_and]
      clear hu
      go_enter Try.func55, Try.ntmps55
      go_wp2
      go_quiet (fail)
      go_wp2
      go_ret2
      exact ⟨rfl, st_drewN (Below.refl _ _) _⟩
    have d2 : (una == (first + 1) % 4294967296) = true := by simpa using hu
    simp only [decide_eq_true hu, Bool.true_and]
    clear hu
    by_cases h5 : s = 4
    · have d3 : (s == 4) = true := by simpa using h5
      simp only [decide_eq_true h5]
      clear h5
      go_enter Try.func55, Try.ntmps55
      go_wp2
      go_quiet (fail)
      go_wp2
      go_ret2
      exact ⟨rfl, st_drewN (Below.refl _ _) _⟩
    · have d3 : (s == 4) = false := by simpa using h5
      simp only [decide_eq_false h5]
      clear h5
      go_enter Try.func55, Try.ntmps55
      go_wp2
      go_quiet (fail)
      go_wp2
      go_ret2
      exact ⟨rfl, st_drewN (Below.refl _ _) _⟩
set_option maxRecDepth 100000 in
theorem call38_bad (h : ESt w B g x vo vi xs ys) (hs : x.st ≠ 0) (iss : Int) : Calls Try.prog 38 #[.pointer (some ⟨g, 0, none⟩), .int .u32 iss] w fun e w' => e = .returned (.int .i64 8) ∧ w = w' := by
  have H := Lib.hid (begin_bad h hs 2 iss)
  clear h hs
  go_enter Try.func38, Try.ntmps38
  go_wp2_with fail
  refine H.out.mono ?_
  rintro e w' ⟨rfl, rfl⟩
  go_wp2
  go_ret
  exact ⟨rfl, rfl⟩
def BegP (w : World) (B g : Nat) (st iss : Int) (e : Ending) (w' : World) : Prop := e = .returned (.int .i64 0) ∧ ESt w' B g (exB st iss) (.slice none 0 0) (.slice none 0 0) [] [] ∧ Fr (fun k => k = g) w w'
set_option maxRecDepth 100000 in
theorem call38_ok (h : ESt w B g ex0 vo vi xs ys) (iss : Int) (hi : 0 ≤ iss ∧ iss < 4294967296) (hB : B ≤ w.heap.size) : Calls Try.prog 38 #[.pointer (some ⟨g, 0, none⟩), .int .u32 iss] w (BegP w B g 2 iss) := by
  have H := Lib.hid (begin_ok h 2 iss hi hB)
  clear h
  go_enter Try.func38, Try.ntmps38
  go_wp2_with fail
  refine H.out.mono ?_
  rintro e w' ⟨rfl, h1, h2⟩
  have H1 := Lib.hid h1
  have H2 := Lib.hid h2
  clear h1 h2
  go_wp2
  go_ret
  exact ⟨rfl, H1.out, H2.out⟩
set_option maxRecDepth 100000 in
theorem listen40 (h : ESt w B g ex0 vo vi xs ys) (iss : Int) (hi : 0 ≤ iss ∧ iss < 4294967296) (hB : B ≤ w.heap.size) : Calls Try.prog 40 #[.pointer (some ⟨g, 0, none⟩), .int .u32 iss] w (BegP w B g 1 iss) := by
  have H := Lib.hid (begin_ok h 1 iss hi hB)
  clear h
  go_enter Try.func40, Try.ntmps40
  go_wp2_with fail
  refine H.out.mono ?_
  rintro e w' ⟨rfl, h1, h2⟩
  have H1 := Lib.hid h1
  have H2 := Lib.hid h2
  clear h1 h2
  go_wp2
  go_ret
  exact ⟨rfl, H1.out, H2.out⟩
end
end Go.Proofs.Ythlhjaacjhlkhaa
