/- The law ringlaw1.SpinOff: what is held between two plays. -/
import Derived.Test.YtjcbnanajelpjaaSoB
namespace Go.Proofs.Ytjcbnanajelpjaa
open Go.RowKit
set_option maxHeartbeats 400000
set_option linter.unusedVariables false
set_option linter.unusedSimpArgs false
/-- The stack of an Off that has been saved d times. -/
def stk : Nat → List Bool
  | 0 => []
  | d + 1 => true :: List.replicate d false
theorem stk_len (d : Nat) : (stk d).length = d := by cases d <;> simp [stk]
theorem stk_push (d : Nat) : stk d ++ [decide (d = 0)] = stk (d + 1) := by
  cases d with
  | zero => rfl
  | succ d => simp [stk, List.replicate_succ']
/-- Between two plays: the Off at g, the law's own list v8. -/
def SoI (w wr : World) (g : Nat) (v8 : Value) (d : Nat) (cmo cml : List Int) : Prop :=
  ∃ vs vc, OffSt wr w.heap.size g vs vc (stk d) (decide (d = 0)) cmo ∧ Row wr w.heap.size 3 1 v8 cml.length (cml.map (Value.int .i64)) ∧ (∀ k, v8.ownBlock = some k → ¬ OffF g vs vc k) ∧ Below w.heap.size w wr
theorem OffSt.lowF {w : World} {B g : Nat} {vs vc : Value} {st : List Bool} {on : Bool} {cm : List Int} (h : OffSt w B g vs vc st on cm) : ∀ k, OffF g vs vc k → B ≤ k := fun k hk => by
  rcases hk with rfl | hk | hk
  · exact h.low
  · exact (h.row.lt k hk).1
  · exact (h.came.lt k hk).1
theorem SoI.go {w wr w' : World} {g : Nat} {v8 vs vc : Value} {d' : Nat} {st : List Bool} {on : Bool} {cmo cml cmo' : List Int} {st' : List Bool} {on' : Bool} (ho : OffSt wr w.heap.size g vs vc st on cmo) (hr : Row wr w.heap.size 3 1 v8 cml.length (cml.map (Value.int .i64)))
    (hd : ∀ k, v8.ownBlock = some k → ¬ OffF g vs vc k) (hb : Below w.heap.size w wr) (hgo : OffGo wr w.heap.size g vs vc st' on' cmo' w') (hs : st' = stk d') (hon : on' = decide (d' = 0)) : SoI w w' g v8 d' cmo' cml := by
  obtain ⟨vs', vc', h1, h2, h3⟩ := hgo
  subst hs; subst hon
  refine ⟨vs', vc', h1, hr.fr h2 hd, fun k hk hf => ?_, hb.trans (h2.below hb.size ho.lowF)⟩
  rcases h3 k hf with h4 | h4
  · exact hd k hk h4
  · have := (hr.lt k hk).2; omega
theorem SoI.drewN {w wr : World} {g : Nat} {v8 : Value} {d : Nat} {cmo cml : List Int} (h : SoI w wr g v8 d cmo cml) (n : Nat) : SoI w (wr.drewN n) g v8 d cmo cml := by
  obtain ⟨vs, vc, h1, h2, h3, h4⟩ := h
  exact ⟨vs, vc, h1.keep ((Fr.refl Nil wr).drewN n) (fun _ _ h => h), h2.fr ((Fr.refl Nil wr).drewN n) (fun _ _ h => h), h3, sl_below_drewN h4 n⟩
theorem SoI.grow {w wr wr' : World} {g : Nat} {v8 : Value} {d : Nat} {cmo cml : List Int} (h : SoI w wr g v8 d cmo cml) (hb : Below wr.heap.size wr wr') : SoI w wr' g v8 d cmo cml := by
  obtain ⟨vs, vc, h1, h2, h3, h4⟩ := h
  exact ⟨vs, vc, h1.keep (Fr.of_grow hb) (fun _ _ h => h), h2.fr (Fr.of_grow hb) (fun _ _ h => h), h3, h4.trans (hb.mono h4.size)⟩
theorem SoI.nil {w wr : World} {g : Nat} {v8 : Value} {d : Nat} {cmo cml : List Int} (h : SoI w wr g v8 d cmo cml) : SoI w wr g (.slice none 0 0) d cmo [] := by
  obtain ⟨vs, vc, h1, h2, h3, h4⟩ := h
  exact ⟨vs, vc, h1, Row.nil _ _ _ _, fun k hk => by simp [Value.ownBlock] at hk, h4⟩
theorem SoI.append {w wr w1 : World} {g : Nat} {v8 v9 : Value} {d : Nat} {cmo cml : List Int} {x : Int} {X : Obj} (h : SoI w wr g v8 d cmo cml) (hr : Row w1 w.heap.size 3 1 v9 (cml.length + 1) (cml.map (Value.int .i64) ++ [.int .i64 x]))
    (hg : (wr.alloc X).grownBy w1 v8.ownBlock) (ho : v9.ownBlock = v8.ownBlock ∨ v9.ownBlock = some (wr.heap.size + 1)) : SoI w w1 g v9 d cmo (cml ++ [x]) := by
  obtain ⟨vs, vc, h1, h2, h3, h4⟩ := h
  have hfr : Fr (fun k => v8.ownBlock = some k) wr w1 := ((Fr.refl _ wr).alloc X).grown hg (fun k e _ => e)
  refine ⟨vs, vc, h1.keep hfr (fun k hk e => h3 k e hk), by simpa using hr, fun k hk hf => ?_, h4.trans (hfr.below h4.size (fun k e => (h2.lt k e).1))⟩
  rcases own_cases ho hk with h5 | rfl
  · exact h3 k h5 hf
  · have : OffF g vs vc (wr.heap.size + 1) → wr.heap.size + 1 < wr.heap.size := fun hk => by
      rcases hk with e | e | e
      · have := h1.blk.lt; omega
      · exact (h1.row.lt _ e).2
      · exact (h1.came.lt _ e).2
    have := this hf
    omega
theorem off_new (w : World) (B : Nat) (hB : B ≤ w.heap.size) : OffSt (w.alloc (.cells #[.int .i64 0, .slice none 0 0, .bool true, .slice none 0 0, .int .u32 0] 115)) B w.heap.size (.slice none 0 0) (.slice none 0 0) [] true [] :=
  ⟨Blk.new _ _ _, Row.nil _ _ _ _, Row.nil _ _ _ _, hB, by simp [Value.ownBlock], by simp [Value.ownBlock], fun k hk => by simp [Value.ownBlock] at hk⟩
theorem SoI.start (w wr : World) (hb : Below w.heap.size w wr) : SoI w (wr.alloc (.cells #[.int .i64 0, .slice none 0 0, .bool true, .slice none 0 0, .int .u32 0] 115)) wr.heap.size (.slice none 0 0) 0 [] [] :=
  ⟨_, _, off_new wr w.heap.size hb.size, Row.nil _ _ _ _, fun k hk => by simp [Value.ownBlock] at hk, hb.alloc hb.size _⟩
end Go.Proofs.Ytjcbnanajelpjaa
