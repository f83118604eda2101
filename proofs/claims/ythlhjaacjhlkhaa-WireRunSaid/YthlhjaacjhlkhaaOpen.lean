/- Lemmas over any program: an argument's bytes and integers, opened. -/
import Derived.Test.YthlhjaacjhlkhaaMem
import Derived.Test.YthlhjaacjhlkhaaLaw
import Derived.Lib.SmallJoins
namespace Go
open Go.ChangeShapes Go.WideShapes Go.ChangeAt Go.RowKit Go.Joins Go.Deep
set_option linter.unusedVariables false
/-- A slice of integers that reads as xs, below block B. -/
def RI (k : IntKind) (w : World) (B : Nat) (A : Option Addr) (n : Nat) (xs : List Int) : Prop := Reads w B 1 A n (xs.map (Value.int k)) ∧ ∀ x ∈ xs, (Lit.int k x).wf = true
theorem RI.len {k : IntKind} {w : World} {B n : Nat} {A : Option Addr} {xs : List Int} (h : RI k w B A n xs) : xs.length = n := by simpa using h.1.1
theorem RI.at_ {k : IntKind} {w : World} {B n : Nat} {A : Option Addr} {xs : List Int} {i : Nat} (h : RI k w B A n xs) (hi : i < n) :
    ∃ b o, A = some ⟨b, o, none⟩ ∧ b < B ∧ w.cell? ⟨b, o + i, none⟩ = some (.int k (xs.getD i 0)) ∧ (Lit.int k (xs.getD i 0)).wf = true := by
  obtain ⟨b, o, u, e, hb, hx, hc⟩ := h.1.at_ hi
  have hl : i < xs.length := by rw [h.len]; exact hi
  have e1 : xs.getD i 0 = xs[i] := by simp [List.getD, List.getElem?_eq_getElem hl]
  have hu : u = .int k (xs.getD i 0) := by
    rw [List.getElem?_map, List.getElem?_eq_getElem hl] at hx
    rw [e1]; simpa using hx.symm
  subst hu
  exact ⟨b, o, e, hb, hc, by rw [e1]; exact h.2 _ (List.getElem_mem hl)⟩
theorem RI.below' {k : IntKind} {w w' : World} {B B' n : Nat} {A : Option Addr} {xs : List Int} (h : RI k w B A n xs) (hb : Below B' w w') (hB : B ≤ B') : RI k w' B A n xs := ⟨h.1.below' hb hB, h.2⟩
theorem RI.more {k : IntKind} {w : World} {B B' n : Nat} {A : Option Addr} {xs : List Int} (h : RI k w B A n xs) (hB : B ≤ B') : RI k w B' A n xs := ⟨h.1.more hB, h.2⟩
theorem i64_range {x : Int} (h : (Lit.int .i64 x).wf = true) : -9223372036854775808 ≤ x ∧ x ≤ 9223372036854775807 := by
  simp [Lit.wf, IntKind.min, IntKind.max, IntKind.signed, IntKind.bits] at h; omega
theorem u32_range {x : Int} (h : (Lit.int .u32 x).wf = true) : 0 ≤ x ∧ x < 4294967296 := by
  simp [Lit.wf, IntKind.min, IntKind.max, IntKind.signed, IntKind.bits] at h; omega
theorem u8_range {x : Int} (h : (Lit.int .u8 x).wf = true) : 0 ≤ x ∧ x < 256 := by
  simp [Lit.wf, IntKind.min, IntKind.max, IntKind.signed, IntKind.bits] at h; omega
section
variable {H : Type} {enc : TypeId × Value → H} {P : Program} {w : World} {base : Nat} {spare : Nat → Bool} {held : Bool}
/-- A slice of integers, opened; its length times its elements' bytes is what the reading weighs at most. -/
theorem open_ri {t e : TypeId} {k : IntKind} {fuel : Nat} {v : Value} {x : DataW H × List MemPlace} (ht : P.underlying t = some (.slice e)) (he : P.underlying e = some (.int k)) (hc : P.cellsOf e = 1)
    (h : DataW.trod enc P w base (fun _ => true) held fuel t [v] = some x) :
    ∃ A n c xs, v = .slice A n c ∧ RI k w w.heap.size A n xs ∧ n ≤ c ∧ c ≤ maxLen ∧ (∀ R, (∀ m ∈ x.1.weights P t, m ≤ R) → n * P.bytesOf e ≤ R) := by
  rcases open_ints ht he hc h with ⟨hcs, rfl⟩ | ⟨a, len, cap, zs, hcs, _, hl, hm, hz, rfl, hcell, hwf⟩
  · simp at hcs
    exact ⟨none, 0, 0, [], hcs, ⟨Reads.none_, fun x hx => by simp at hx⟩, Nat.le_refl _, by simp, fun R _ => by simp⟩
  · simp at hcs
    simp only [if_true] at hz
    refine ⟨some a, len, cap, zs.take len, hcs, ⟨⟨by simp; omega, fun hn => ?_⟩, fun x hx => hwf x (List.mem_of_mem_take hx)⟩, hl, hm, fun R hR => ?_⟩
    · have h0 := hcell 0 (by omega)
      obtain ⟨b, o, sp⟩ := a
      have hsp : sp = none := by simpa [Addr.add] using World.cell?_spot h0
      subst hsp
      have hlt : b < w.heap.size := World.block_lt_of_cell? w _ (by rw [add_plain] at h0; exact h0)
      refine ⟨b, o, rfl, hlt, fun j u hu => ?_⟩
      rw [List.getElem?_map] at hu
      obtain ⟨z, hz1, hz2⟩ := Option.map_eq_some_iff.1 hu
      have hj : j < len := by
        rcases Nat.lt_or_ge j len with h' | h'
        · exact h'
        · rw [List.getElem?_eq_none (by simp; omega)] at hz1; cases hz1
      rw [List.getElem?_take_of_lt hj] at hz1
      have := hcell j (by omega)
      rw [add_plain] at this
      rw [this, ← hz2]
      simp [List.getD, hz1]
    · have := hR _ (by simp only [DataW.weights, ht]; exact List.mem_cons_self)
      refine Nat.le_trans (Nat.mul_le_mul_right _ ?_) this
      simp [lits]
      omega
theorem RI.rb {w : World} {B n : Nat} {A : Option Addr} {xs : List Int} (h : RI .u8 w B A n xs) : RB w B A n xs := ⟨h.1, fun x hx => u8_range (h.2 x hx)⟩
theorem open_agg5 {r : Reach} {b0 : Nat} {t : TypeId} {f0 f1 f2 f3 f4 : Field} {v : Value} {d : DataW H} {p : List MemPlace} (hs : P.underlying t = some (.struct #[f0, f1, f2, f3, f4])) (hone : oneCellFields P #[f0, f1, f2, f3, f4] = true) (hC : P.cellsOf t = 5)
    (hv : Value.okWide P w r b0 t v) (h : DataW.Trod enc P w base spare held t v d p) :
    ∃ (v0 v1 v2 v3 v4 : Value) (y0 y1 y2 y3 y4 : DataW H × List MemPlace) (n : Nat), v = .agg #[v0, v1, v2, v3, v4] ∧ d = .agg [y0.1, y1.1, y2.1, y3.1, y4.1] ∧ p = y0.2 ++ (y1.2 ++ (y2.2 ++ (y3.2 ++ y4.2))) ∧
      DataW.trod enc P w base spare held n f0.type [v0] = some y0 ∧ DataW.trod enc P w base spare held n f1.type [v1] = some y1 ∧ DataW.trod enc P w base spare held n f2.type [v2] = some y2 ∧ DataW.trod enc P w base spare held n f3.type [v3] = some y3 ∧ DataW.trod enc P w base spare held n f4.type [v4] = some y4 := by
  obtain ⟨cs, rfl, hsz⟩ := okWide_struct hs hv
  obtain ⟨l⟩ := cs
  match l, hsz.trans hC with
  | [c0, c1, c2, c3, c4], _ =>
    obtain ⟨fuel, hf⟩ := h
    obtain ⟨xs, n, _, hx, _, hlen, hg⟩ := DataW.trod_struct hs hf
    obtain ⟨o0, k0⟩ := hone_of hone 0 f0 rfl
    obtain ⟨o1, k1⟩ := hone_of hone 1 f1 rfl
    obtain ⟨o2, k2⟩ := hone_of hone 2 f2 rfl
    obtain ⟨o3, k3⟩ := hone_of hone 3 f3 rfl
    obtain ⟨o4, k4⟩ := hone_of hone 4 f4 rfl
    match xs, hlen with
    | [y0, y1, y2, y3, y4], _ =>
      simp only [Prod.mk.injEq] at hx
      exact ⟨c0, c1, c2, c3, c4, y0, y1, y2, y3, y4, n, rfl, by simpa using hx.1, by simpa using hx.2, by simpa [Value.cells, o0, k0] using hg 0 f0 rfl, by simpa [Value.cells, o1, k1] using hg 1 f1 rfl, by simpa [Value.cells, o2, k2] using hg 2 f2 rfl, by simpa [Value.cells, o3, k3] using hg 3 f3 rfl, by simpa [Value.cells, o4, k4] using hg 4 f4 rfl⟩
end
end Go
