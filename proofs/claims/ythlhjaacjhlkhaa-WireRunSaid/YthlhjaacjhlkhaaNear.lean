/- Lemmas over any program: a region that draws its order, all of whose operations read and whose callees leave everything below a block number as it was, is walked once, in the order of the text. -/
import Derived.WalkKit
import Derived.Below
import Derived.Deep.QuietTactic
import Derived.BigQuiet
namespace Go
open Go.RowKit
/-- A world that is as w is below block number B. -/
def Near (B : Nat) (w : World) : Type := {w' : World // Below B w w'}
namespace Near
variable {B : Nat} {w : World}
def val (x : Near B w) : World := Subtype.val x
theorem prop (x : Near B w) : Below B w x.val := x.2
def mk (w' : World) (h : Below B w w') : Near B w := ⟨w', h⟩
instance : Nonempty (Near B w) := ⟨mk w (Below.refl _ _)⟩
theorem size (x : Near B w) : w.heap.size ≤ x.val.heap.size := x.prop.size
@[go_sem] theorem cell (x : Near B w) {b o : Nat} (h : b < B) : x.val.cell? ⟨b, o, none⟩ = w.cell? ⟨b, o, none⟩ := x.prop.cell (p := ⟨b, o, none⟩) h
@[go_sem] theorem frozen (x : Near B w) {b o : Nat} (h : b < B) : x.val.frozen? ⟨b, o, none⟩ = w.frozen? ⟨b, o, none⟩ := x.prop.frozen (p := ⟨b, o, none⟩) h
end Near
section
variable {P : Program}
theorem wp_region_near {id : Nat} {Q : Exit → Act → World → Prop} {a : Act} {w : World} {l : List Oper} (B : Nat) (hm : P.follows .mixedOrders = true) (hB : Region.lexB .any l.toArray = true)
    (h : wpQuiet P l.toArray (fun w' => ∃ x : Near B w, w' = x.val) (fun a' => ∀ w', Below B w w' → Q .normal a' w') l a) : (Code.region id l.toArray true).wp P Q a w :=
  wp_region_quiet (C := fun w' => ∃ x : Near B w, w' = x.val) hm hB ⟨Near.mk _ (Below.refl B w).drew, rfl⟩ (by
    have e : (fun a' => ∀ w', (∃ x : Near B w, w' = x.val) → Q .normal a' w') = (fun a' => ∀ w', Below B w w' → Q .normal a' w') := by
      funext a'
      exact propext ⟨fun h w' hw => h w' ⟨Near.mk w' hw, rfl⟩, fun h w' ⟨x, hx⟩ => hx ▸ h _ x.prop⟩
    rw [e]; simpa using h)
/-- A callee's contract met in such a world. -/
theorem Calls.near {f : FuncId} {args : Array Value} {B : Nat} {w : World} {x : Near B w} {v : Value} {B' : Nat} (hB : B ≤ B')
    (h : Calls P f args x.val fun e w' => e = .returned v ∧ Below B' x.val w') : Calls P f args x.val fun e w'' => e = .returned v ∧ ∃ y : Near B w, w'' = y.val :=
  h.mono fun _ _ ⟨he, hb⟩ => ⟨he, Near.mk _ (x.prop.trans (hb.mono hB)), rfl⟩
theorem Calls.near_same {f : FuncId} {args : Array Value} {B : Nat} {w : World} {x : Near B w} {v : Value}
    (h : Calls P f args x.val fun e w' => e = .returned v ∧ x.val = w') : Calls P f args x.val fun e w'' => e = .returned v ∧ ∃ y : Near B w, w'' = y.val :=
  h.mono fun _ _ ⟨he, hb⟩ => ⟨he, x, hb.symm⟩
end
end Go
