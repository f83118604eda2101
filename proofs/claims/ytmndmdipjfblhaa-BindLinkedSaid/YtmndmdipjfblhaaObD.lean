/- Contracts of ringlaw4.sameWords, sameNeeds, sameBytes and sameObject at objects that read alike. -/
import Derived.Test.YtmndmdipjfblhaaObB
namespace Go.Proofs.Ytmndmdipjfblhaa
open Go.RowKit
set_option maxHeartbeats 400000
set_option linter.unusedVariables false
set_option linter.unusedSimpArgs false
def SameB (w : World) (e : Ending) (w' : World) : Prop := e = .returned (.bool true) ∧ Below w.heap.size w w'
/-- A slice of words that reads as ws. -/
def RW (w : World) (B : Nat) (A : Option Addr) (n : Nat) (ws : List Int) : Prop := Reads w B 1 A n (ws.map (Value.int .u32))
theorem RW.len {w : World} {B n : Nat} {A : Option Addr} {xs : List Int} (h : RW w B A n xs) : xs.length = n := by simpa using h.1
theorem RW.at_ {w : World} {B n i : Nat} {A : Option Addr} {xs : List Int} (h : RW w B A n xs) (hi : i < n) : ∃ b o, A = some ⟨b, o, none⟩ ∧ b < B ∧ w.cell? ⟨b, o + i, none⟩ = some (.int .u32 (xs.getD i 0)) := by
  obtain ⟨b, o, u, e, hb, hx, hc⟩ := Reads.at_ h hi
  have hl : i < xs.length := by rw [h.len]; exact hi
  have hu : u = .int .u32 (xs.getD i 0) := by
    rw [List.getElem?_map, List.getElem?_eq_getElem hl] at hx
    simp [List.getD, List.getElem?_eq_getElem hl]
    simpa using hx.symm
  subst hu
  exact ⟨b, o, e, hb, hc⟩
theorem RW.below' {w w' : World} {B B' n : Nat} {A : Option Addr} {xs : List Int} (h : RW w B A n xs) (hb : Below B' w w') (hB : B ≤ B') : RW w' B A n xs := Reads.below' h hb hB
theorem sameBytes_same (A A' : Option Addr) (n c n' c' : Nat) (xs : List Int) (w : World) (B B' : Nat) (h : RB w B A n xs) (h' : RB w B' A' n' xs) :
    Calls Try.prog 13 #[.slice A n c, .slice A' n' c'] w (SameB w) := by
  have e1 := h.conv (P := Try.prog) c 35 9 5 Try.underlying35 Try.underlying5 Try.underlying9
  have e2 := h'.conv (P := Try.prog) c' 35 9 5 Try.underlying35 Try.underlying5 Try.underlying9
  go_enter Try.func13, Try.ntmps13
  go_wp2
  go_ret
  exact ⟨ob_bool (by simp), Below.refl _ _⟩
/-- All of an object, read. -/
structure Ob.Full (o : Ob) (w : World) (B : Nat) (ws bs : List Int) : Prop where
  read : o.Read w B
  rw : RW w B o.A0 o.n0 ws
  rb : RB w B o.A1 o.n1 bs
theorem Ob.Full.below' {o : Ob} {w w' : World} {B B' : Nat} {ws bs : List Int} (h : o.Full w B ws bs) (hb : Below B' w w') (hB : B ≤ B') : o.Full w' B ws bs := ⟨h.read.below' hb hB, h.rw.below' hb hB, h.rb.below' hb hB⟩
theorem RN.more {w : World} {B B' n : Nat} {A : Option Addr} {ns : List Nm} (h : RN w B A n ns) (hB : B ≤ B') : RN w B' A n ns := ⟨h.1.more hB, h.2⟩
theorem RD.more {w : World} {B B' n : Nat} {A : Option Addr} {ns : List Nd} (h : RD w B A n ns) (hB : B ≤ B') : RD w B' A n ns := ⟨h.1.more hB, h.2⟩
theorem Ob.Full.more {o : Ob} {w : World} {B B' : Nat} {ws bs : List Int} (h : o.Full w B ws bs) (hB : B ≤ B') : o.Full w B' ws bs := ⟨⟨h.read.ns.more hB, h.read.ds.more hB, h.read.m0, h.read.m1, h.read.m2, h.read.m3⟩, Reads.more h.rw hB, h.rb.more hB⟩
theorem Blk.growD {w w' : World} {g : Nat} {cs : Array Value} {t : TypeId} (h : Blk w g cs t) (hb : Below w.heap.size w w') : Blk w' g cs t := h.fr (Fr.of_grow hb) (fun h => h)
end Go.Proofs.Ytmndmdipjfblhaa
