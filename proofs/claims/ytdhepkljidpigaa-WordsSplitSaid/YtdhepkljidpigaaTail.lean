/- Over any program: a region that draws its order, all of whose operations but the last few only read; what is known of the world behind the draw is a class of the prover's. -/
import Derived.StillTailTactics
import Derived.Deep.Draws
import Derived.WalkKit
namespace Go
theorem wp_region_tail {P : Program} {id : Nat} {Q : Exit → Act → World → Prop} {a : Act} {w : World} {l : List Oper} (n : Nat) (C : World → Prop) (hm : P.follows .mixedOrders = true) (hB : Region.lexTailB .any l.toArray n = true) (hC : C w.drew)
    (h : ∀ w', C w' → wpStill P l.toArray w' (fun a' => wpList P l.toArray Q (l.drop n) a' w') (l.take n) a) : (Code.region id l.toArray true).wp P Q a w :=
  wp_region_still_tail n hm hB (h _ hC)
end Go
