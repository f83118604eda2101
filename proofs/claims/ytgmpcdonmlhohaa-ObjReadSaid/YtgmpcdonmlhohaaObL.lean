/- Contract of ringref4.two; what an object's bytes are. -/
import Derived.Test.YtgmpcdonmlhohaaObK
namespace Go.Proofs.Ytgmpcdonmlhohaa
open Go.RowKit
set_option maxHeartbeats 400000
set_option linter.unusedVariables false
set_option linter.unusedSimpArgs false
theorem twoI_byt (x : Int) (h : 0 ≤ x ∧ x < 65536) : Byt (twoI x) := by
  intro y hy
  simp only [twoI, List.mem_cons, List.not_mem_nil, or_false] at hy
  rcases hy with rfl | rfl <;> omega
theorem two_any (x : Int) (w : World) (h : 0 ≤ x ∧ x < 65536) :
    Calls Try.prog 31 #[.int .i64 x] w fun e w' => e = .returned (.string (strOfNums (twoI x))) ∧ Below w.heap.size w w' := by
  have hr : RB (w.alloc (.cells #[.int .u8 (x % 256), .int .u8 (x / 256)] 5)) (w.heap.size + 1) (some ⟨w.heap.size, 0, none⟩) 2 (twoI x) := RB.new w 5 (twoI x) (twoI_byt x h)
  have e1 := hr.conv (P := Try.prog) 2 35 9 5 Try.underlying35 Try.underlying5 Try.underlying9
  have t1 : x.tmod 256 = x % 256 := Int.tmod_eq_emod_of_nonneg h.1
  have t2 : x.tdiv 256 = x / 256 := Int.tdiv_eq_ediv_of_nonneg h.1
  go_enter Try.func31, Try.ntmps31
  go_wp2
  go_ret
  exact ⟨rfl, (Below.refl _ _).alloc (Nat.le_refl _) _⟩
theorem numI_byt (s : ByteArray) : Byt (numI s) := by
  intro y hy
  simp only [numI, List.mem_map] at hy
  obtain ⟨b, _, rfl⟩ := hy
  have := b.toNat_lt
  omega
theorem strOf_numI (s : ByteArray) : strOfNums (numI s) = s := by
  apply ByteArray.ext
  apply Array.ext'
  simp only [strOfNums, numI, List.map_map]
  have e : ∀ l : List UInt8, List.map ((fun n : Int => UInt8.ofNat n.toNat) ∘ fun b : UInt8 => (b.toNat : Int)) l = l := fun l => by
    induction l with
    | nil => rfl
    | cons b l ih => rw [List.map_cons, ih]; simp
  simp [e]
/-- The parts of an object's bytes. -/
def wordI (x : Int) : List Int := twoI (x % 65536) ++ twoI (x / 65536)
def nmI (n : Nm) : List Int := [(n.s.size : Int)] ++ numI n.s ++ twoI (if n.wk = true then n.wh + 4 else n.wh) ++ twoI n.ad
def ndI (n : Nd) : List Int := [(n.s.size : Int)] ++ numI n.s ++ twoI n.k ++ twoI n.ad
def wordsI (ws : List Int) (n : Nat) : List Int := [82, 79, 49] ++ twoI (n : Int) ++ ws.flatMap wordI
def dataI (ws bs : List Int) (n0 n1 : Nat) : List Int := wordsI ws n0 ++ twoI (n1 : Int) ++ bs
def namesI (ws bs : List Int) (n0 n1 n2 : Nat) (ns : List Nm) : List Int := dataI ws bs n0 n1 ++ twoI (n2 : Int) ++ ns.flatMap nmI
def objI (ws bs : List Int) (n0 n1 n2 n3 : Nat) (ns : List Nm) (ds : List Nd) : List Int := namesI ws bs n0 n1 n2 ns ++ twoI (n3 : Int) ++ ds.flatMap ndI
theorem flat_take {α : Type} (f : α → List Int) (z : α) (xs : List α) (k : Nat) (h : k < xs.length) : (xs.take (k + 1)).flatMap f = (xs.take k).flatMap f ++ f (xs.getD k z) := by
  rw [List.take_add_one, List.flatMap_append, List.getElem?_eq_getElem h]
  simp [List.getD, List.getElem?_eq_getElem h]
/-- While Encode runs: what lies below is untouched, its object is in its box, and the writer holds xs. -/
structure Enc (w W : World) (g : Nat) (o : Ob) (v : Value) (n : Nat) (xs : List Int) : Prop where
  below : Below w.heap.size w W
  box : Blk W w.heap.size o.vals 38
  wr : WS W g (w.heap.size + 1) v n xs
theorem Enc.alloc {w W : World} {g : Nat} {o : Ob} {v : Value} {n : Nat} {xs : List Int} (h : Enc w W g o v n xs) (X : Obj) : Enc w (W.alloc X) g o v n xs :=
  ⟨h.below.alloc h.below.size X, h.box.alloc X, ⟨h.wr.blk.alloc X, h.wr.row.alloc X, h.wr.low⟩⟩
theorem Wr.low {w : World} {g base n : Nat} {v : Value} {xs : List Int} (h : WS w g base v n xs) : ∀ k, Wr g v k → base ≤ k := by
  intro k hk
  rcases hk with rfl | hk
  · exact h.low
  · exact (h.row.lt k hk).1
theorem Enc.step {w W W' : World} {g : Nat} {o : Ob} {v v' : Value} {n n' : Nat} {xs xs' : List Int} (h : Enc w W g o v n xs) (h' : WS W' g (w.heap.size + 1) v' n' xs') (hf : Fr (Wr g v) W W') : Enc w W' g o v' n' xs' := by
  have hl := Wr.low h.wr
  exact ⟨h.below.trans (hf.below h.below.size (fun k hk => by have := hl k hk; omega)), h.box.fr hf (fun hk => by have := hl _ hk; omega), h'⟩
/-- A block of another kind outlives a writer's step. -/
theorem WS.keeps {W W' : World} {g base n k : Nat} {v : Value} {xs : List Int} {cs : Array Value} {t : TypeId} (h : WS W g base v n xs) (hb : Blk W k cs t) (h5 : 5 ≠ t) (h74 : 74 ≠ t) (hf : Fr (Wr g v) W W') : Blk W' k cs t := by
  refine hb.fr hf (fun hk => ?_)
  rcases hk with rfl | hk
  · have e := h.blk.symm.trans hb
    injection e with e
    injection e with _ e
    exact h74 e
  · exact row_blk h.row hb h5 hk
end Go.Proofs.Ytgmpcdonmlhohaa
