/- Images: what is told of them (P57.1, P57.6), and the contract of load.may. -/
import Derived.Test.YtdgjcjhdclihpaaDoorProg
import Derived.Test.YtdgjcjhdclihpaaDoorNear
import Derived.Test.YtdgjcjhdclihpaaDoorMem
import Derived.Test.YtdgjcjhdclihpaaDoorFlow
import Derived.WalkSpells
import Derived.WalkLawsBesides
import Derived.Outline
import Derived.LoopTactic
import Derived.Deep.Light
import Derived.IntWalk
import Derived.Laws.BitsAllLaws
import Derived.Laws.MakeOwn
namespace Go.Proofs.YtdgjcjhdclihpaaDoor
open Go.RowKit
set_option maxHeartbeats 400000
set_option linter.unusedVariables false
set_option linter.unusedSimpArgs false
def I64 (x : Int) : Prop := -9223372036854775808 ≤ x ∧ x ≤ 9223372036854775807
/-- A page of an image. -/
structure Pg where
  p : Int
  r : Int
  A : Option Addr
  n : Nat
  c : Nat
  xs : List Int
def Pg.cells (g : Pg) : List Value := [.int .i64 g.p, .int .i64 g.r, .slice g.A g.n g.c]
def Pg.zero : Pg := ⟨0, 0, none, 0, 0, []⟩
def Pg.fine (w : World) (B : Nat) (g : Pg) : Prop := RB w B g.A g.n g.xs ∧ I64 g.p ∧ I64 g.r ∧ g.n ≤ 9223372036854775807
theorem flat_at (gs : List Pg) : ∀ (i j : Nat) (g : Pg), gs[i]? = some g → j < 3 → (gs.flatMap Pg.cells)[i * 3 + j]? = g.cells[j]? := by
  induction gs with
  | nil => intro i j r h; simp at h
  | cons a gs ih =>
    intro i j r h hj
    rw [List.flatMap_cons]
    cases i with
    | zero =>
      simp only [List.getElem?_cons_zero, Option.some.injEq] at h
      subst h
      rw [List.getElem?_append_left (by simp [Pg.cells]; omega)]
      simp
    | succ i =>
      simp only [List.getElem?_cons_succ] at h
      rw [List.getElem?_append_right (by simp [Pg.cells]; omega)]
      have := ih i j r h hj
      rw [← this]
      congr 1
      simp [Pg.cells]; omega
/-- A slice of pages that reads as gs. -/
def RP (w : World) (B : Nat) (A : Option Addr) (n : Nat) (gs : List Pg) : Prop := Reads w B 3 A n (gs.flatMap Pg.cells) ∧ gs.length = n ∧ ∀ g ∈ gs, g.fine w B
theorem RP.below' {w w' : World} {B B' n : Nat} {A : Option Addr} {gs : List Pg} (h : RP w B A n gs) (hb : Below B' w w') (hB : B ≤ B') : RP w' B A n gs :=
  ⟨h.1.below' hb hB, h.2.1, fun g hg => ⟨(h.2.2 g hg).1.below' hb hB, (h.2.2 g hg).2⟩⟩
theorem RP.at_ {w : World} {B n i : Nat} {A : Option Addr} {gs : List Pg} (h : RP w B A n gs) (hi : i < n) : ∃ b o, A = some ⟨b, o, none⟩ ∧ b < B ∧ w.cell? ⟨b, o + i * 3, none⟩ = some (.int .i64 (gs.getD i .zero).p) ∧
    w.cell? ⟨b, o + i * 3 + 1, none⟩ = some (.int .i64 (gs.getD i .zero).r) ∧ w.cell? ⟨b, o + i * 3 + 2, none⟩ = some (.slice (gs.getD i .zero).A (gs.getD i .zero).n (gs.getD i .zero).c) := by
  obtain ⟨b, o, e, hb, hc⟩ := h.1.2 (by omega)
  have hl : i < gs.length := by rw [h.2.1]; exact hi
  have e1 : gs[i]? = some (gs.getD i .zero) := by simp [List.getD, List.getElem?_eq_getElem hl]
  refine ⟨b, o, e, hb, ?_, ?_, ?_⟩
  · exact hc (i * 3 + 0) _ ((flat_at gs i 0 _ e1 (by omega)).trans rfl)
  · rw [Nat.add_assoc]; exact hc (i * 3 + 1) _ ((flat_at gs i 1 _ e1 (by omega)).trans rfl)
  · rw [Nat.add_assoc]; exact hc (i * 3 + 2) _ ((flat_at gs i 2 _ e1 (by omega)).trans rfl)
theorem RP.prev {w : World} {B n i : Nat} {b o : Nat} {gs : List Pg} (h : RP w B (some ⟨b, o, none⟩) n gs) (hi : i < n) : w.cell? ⟨b, o + i * 3, none⟩ = some (.int .i64 (gs.getD i .zero).p) := by
  obtain ⟨b', o', e, _, c0, _⟩ := h.at_ hi
  cases e
  exact c0
theorem RP.fine_ {w : World} {B n i : Nat} {A : Option Addr} {gs : List Pg} (h : RP w B A n gs) (hi : i < n) : (gs.getD i .zero).fine w B := by
  have hl : i < gs.length := by rw [h.2.1]; exact hi
  have e1 : gs.getD i .zero = gs[i] := by simp [List.getD, List.getElem?_eq_getElem hl]
  rw [e1]
  exact h.2.2 _ (List.getElem_mem hl)
theorem box2 {w w1 : World} {c0 c1 : Value} {t : TypeId} (hb : Below (w.heap.size + 1) (w.alloc (.cells #[c0, c1] t)) w1) : w1.cell? ⟨w.heap.size, 0, none⟩ = some c0 ∧ w1.cell? ⟨w.heap.size, 1, none⟩ = some c1 ∧ w.heap.size < w1.heap.size := by
  refine ⟨?_, ?_, by have := hb.size; simp at this; omega⟩
  all_goals (rw [hb.cell (by simp)]; simp [go_sem])
theorem box3 {w w1 : World} {c0 c1 c2 : Value} {t : TypeId} (hb : Below (w.heap.size + 1) (w.alloc (.cells #[c0, c1, c2] t)) w1) : w1.cell? ⟨w.heap.size, 0, none⟩ = some c0 ∧ w1.cell? ⟨w.heap.size, 1, none⟩ = some c1 ∧ w1.cell? ⟨w.heap.size, 2, none⟩ = some c2 ∧ w.heap.size < w1.heap.size := by
  refine ⟨?_, ?_, ?_, by have := hb.size; simp at this; omega⟩
  all_goals (rw [hb.cell (by simp)]; simp [go_sem])
def lastP (gs : List Pg) (k : Nat) : Int := if k = 0 then -1 else (gs.getD (k - 1) .zero).p
/-- A page that may be, behind the page ahead of it. -/
def pgOk (last : Int) (g : Pg) : Prop := last < g.p ∧ g.p ≤ 63 ∧ 1 ≤ g.r ∧ g.r ≤ 5 ∧ g.n ≤ 16
def okPg (gs : List Pg) (k : Nat) : Prop := pgOk (lastP gs k) (gs.getD k .zero)
theorem lastP_succ (gs : List Pg) (k : Nat) : lastP gs (k + 1) = (gs.getD k .zero).p := by simp [lastP]
theorem lastP_ge {gs : List Pg} {k : Nat} (h : ∀ j, j < k → okPg gs j) : -1 ≤ lastP gs k := by
  induction k with
  | zero => simp [lastP]
  | succ k ih =>
    have h1 := ih fun j hj => h j (by omega)
    have h2 := (h k (by omega)).1
    rw [lastP_succ]; omega
theorem ok_next {p : Nat → Prop} {k : Nat} (h : ∀ j, j < k → p j) (hk : p k) : ∀ j, j < k + 1 → p j := fun j hj => by
  rcases Nat.lt_or_ge j k with hjk | hjk
  · exact h j hjk
  · obtain rfl : j = k := by omega
    exact hk
def goesP (e : Int) (g : Pg) : Bool := decide (4 ≤ g.r ∧ e / 16 = g.p)
def stp (e : Int) (gs : List Pg) (k : Nat) : Bool := (gs.take k).any (goesP e)
theorem stp_succ (e : Int) (gs : List Pg) (k : Nat) (hk : k < gs.length) : stp e gs (k + 1) = (stp e gs k || goesP e (gs.getD k .zero)) := by
  unfold stp
  rw [List.take_succ_eq_append_getElem hk, List.any_append]
  simp [List.getD, List.getElem?_eq_getElem hk]
/-- P57.1: the error of an image. -/
def ErrIs (e : Int) (gs : List Pg) (x : Int) : Prop :=
  (64 < gs.length ∧ x = 2) ∨ (gs.length ≤ 64 ∧ ((∃ k, k < gs.length ∧ ¬ okPg gs k) ∨ ((∀ k, k < gs.length → okPg gs k) ∧ ¬ (e % 4 = 0 ∧ stp e gs gs.length = true))) ∧ x = 3) ∨
    (gs.length ≤ 64 ∧ (∀ k, k < gs.length → okPg gs k) ∧ (e % 4 = 0 ∧ stp e gs gs.length = true) ∧ x = 0)
theorem ErrIs.unique {e : Int} {gs : List Pg} {x y : Int} (h : ErrIs e gs x) (h' : ErrIs e gs y) : x = y := by
  rcases h with ⟨h1, rfl⟩ | ⟨h1, h2, rfl⟩ | ⟨h1, h2, h3, rfl⟩ <;> rcases h' with ⟨g1, rfl⟩ | ⟨g1, g2, rfl⟩ | ⟨g1, g2, g3, rfl⟩
  · rfl
  · omega
  · omega
  · omega
  · rfl
  · rcases h2 with ⟨k, hk, hn⟩ | ⟨_, hn⟩
    · exact absurd (g2 k hk) hn
    · exact absurd g3 hn
  · omega
  · rcases g2 with ⟨k, hk, hn⟩ | ⟨_, hn⟩
    · exact absurd (h2 k hk) hn
    · exact absurd h3 hn
  · rfl
theorem ErrIs.three {e : Int} {gs : List Pg} {n : Nat} (hl : gs.length = n) (hs : n ≤ 64) (h : ∀ j, j < n → okPg gs j) (hx : ¬ (e % 4 = 0 ∧ stp e gs n = true)) : ErrIs e gs 3 := by
  subst hl
  exact .inr (.inl ⟨hs, .inr ⟨h, hx⟩, rfl⟩)
theorem ErrIs.zero {e : Int} {gs : List Pg} {n : Nat} (hl : gs.length = n) (hs : n ≤ 64) (h : ∀ j, j < n → okPg gs j) (hx : e % 4 = 0 ∧ stp e gs n = true) : ErrIs e gs 0 := by
  subst hl
  exact .inr (.inr ⟨hs, h, hx, rfl⟩)
def ErrPost (e : Int) (gs : List Pg) (w : World) (er : Ending) (w' : World) : Prop := ∃ x, er = .returned (.int .i64 x) ∧ ErrIs e gs x ∧ Below w.heap.size w w'
theorem ErrPost.bad {e : Int} {gs : List Pg} {w w' : World} {k : Nat} (hs : gs.length ≤ 64) (hk : k < gs.length) (hn : ¬ okPg gs k) (hb : Below w.heap.size w w') : ErrPost e gs w (.returned (.int .i64 3)) w' := ⟨3, rfl, .inr (.inl ⟨hs, .inl ⟨k, hk, hn⟩, rfl⟩), hb⟩
theorem and4 {r : Int} (h1 : 1 ≤ r) (h2 : r ≤ 5) : bits .and .i64 r 4 = if 4 ≤ r then 4 else 0 := by
  rcases (by omega : r = 1 ∨ r = 2 ∨ r = 3 ∨ r = 4 ∨ r = 5) with rfl | rfl | rfl | rfl | rfl <;> decide
theorem and3 {e : Int} (h1 : 0 ≤ e) (h2 : e < 4294967296) : bits .and .u32 e 3 = e % 4 := by
  rw [u32_and e 3 h1 h2 (by omega) (by omega)]
  have := Nat.and_two_pow_sub_one_eq_mod e.toNat 2
  simp at this
  show ((e.toNat &&& 3 : Nat) : Int) = _
  rw [this]
  omega
theorem may_any (r : Int) (w : World) : Calls Tryd.prog 20 #[.int .i64 r] w fun e w' => e = .returned (.bool (decide (1 ≤ r ∧ r ≤ 5))) ∧ w = w' := by
  by_cases h1 : r < 1
  · have h1' : decide (r ≥ 1) = false := by simp; omega
    rw [show decide (1 ≤ r ∧ r ≤ 5) = false by simp; omega]
    go_enter Tryd.func20, Tryd.ntmps20
    go_wp2
    go_ret
    exact ⟨rfl, rfl⟩
  by_cases h7 : 7 < r
  · have h1' : decide (r ≤ 7) = false := by simp; omega
    have h2' : decide (r ≥ 1) = true := by simp; omega
    rw [show decide (1 ≤ r ∧ r ≤ 5) = false by simp; omega]
    go_enter Tryd.func20, Tryd.ntmps20
    go_wp2
    go_ret
    exact ⟨rfl, rfl⟩
  rcases (by omega : r = 1 ∨ r = 2 ∨ r = 3 ∨ r = 4 ∨ r = 5 ∨ r = 6 ∨ r = 7) with rfl | rfl | rfl | rfl | rfl | rfl | rfl
  all_goals
    go_enter Tryd.func20, Tryd.ntmps20
    go_wp2
    go_ret
    exact ⟨rfl, rfl⟩
theorem may_is {b : Bool} (r : Int) (w : World) (h : decide (1 ≤ r ∧ r ≤ 5) = b) : Calls Tryd.prog 20 #[.int .i64 r] w fun e w' => e = .returned (.bool b) ∧ w = w' := h ▸ may_any r w
/-- P57.6: what lies at an address. -/
def BytIs (e : Int) (gs : List Pg) (a x r z : Int) : Prop :=
  ∃ er, ErrIs e gs er ∧ ((er ≠ 0 ∧ x = 0 ∧ r = 0 ∧ z = er) ∨ (er = 0 ∧ z = 0 ∧ ∃ k, k < gs.length ∧ (∀ j, j < k → (gs.getD j .zero).p ≠ a / 16) ∧ (gs.getD k .zero).p = a / 16 ∧ r = (gs.getD k .zero).r ∧
    x = if (a % 16).toNat < (gs.getD k .zero).n then (gs.getD k .zero).xs.getD (a % 16).toNat 0 else 0) ∨ (er = 0 ∧ (∀ j, j < gs.length → (gs.getD j .zero).p ≠ a / 16) ∧ x = 0 ∧ r = 0 ∧ z = 11))
theorem BytIs.unique {e : Int} {gs : List Pg} {a x r z x' r' z' : Int} (h : BytIs e gs a x r z) (h' : BytIs e gs a x' r' z') : x = x' ∧ r = r' ∧ z = z' := by
  obtain ⟨er, he, h⟩ := h
  obtain ⟨er', he', h'⟩ := h'
  obtain rfl := he.unique he'
  rcases h with ⟨h1, rfl, rfl, rfl⟩ | ⟨h1, rfl, k, hk, h2, h3, rfl, rfl⟩ | ⟨h1, h2, rfl, rfl, rfl⟩ <;> rcases h' with ⟨g1, rfl, rfl, rfl⟩ | ⟨g1, rfl, k', hk', g2, g3, rfl, rfl⟩ | ⟨g1, g2, rfl, rfl, rfl⟩
  · exact ⟨rfl, rfl, rfl⟩
  · exact absurd g1 h1
  · exact absurd g1 h1
  · exact absurd h1 g1
  · rcases Nat.lt_trichotomy k k' with hh | hh | hh
    · exact absurd h3 (g2 k hh)
    · subst hh; exact ⟨rfl, rfl, rfl⟩
    · exact absurd g3 (h2 k' hh)
  · exact absurd h3 (g2 k hk)
  · exact absurd h1 g1
  · exact absurd g3 (h2 k' hk')
  · exact ⟨rfl, rfl, rfl⟩
def BytPost (e : Int) (gs : List Pg) (a : Int) (w : World) (er : Ending) (w' : World) : Prop := ∃ x r z, er = .returned (.tuple #[.int .u8 x, .int .i64 r, .int .i64 z]) ∧ BytIs e gs a x r z ∧ Below w.heap.size w w'
theorem BytIs.hit {e : Int} {gs : List Pg} {a : Int} {k : Nat} (h0 : ErrIs e gs 0) (hk : k < gs.length) (h2 : ∀ j, j < k → (gs.getD j .zero).p ≠ a / 16) (h3 : (gs.getD k .zero).p = a / 16) {m : Nat} (hm : a % 16 = m) {x : Int}
    (hx : x = if m < (gs.getD k .zero).n then (gs.getD k .zero).xs.getD m 0 else 0) : BytIs e gs a x (gs.getD k .zero).r 0 :=
  ⟨0, h0, .inr (.inl ⟨rfl, rfl, k, hk, h2, h3, rfl, by rw [show (a % 16).toNat = m by omega]; exact hx⟩)⟩
theorem ErrIs.pages {e : Int} {gs : List Pg} (h : ErrIs e gs 0) : gs.length ≤ 64 ∧ ∀ k, k < gs.length → 0 ≤ (gs.getD k .zero).p ∧ (gs.getD k .zero).p ≤ 63 := by
  rcases h with ⟨_, h⟩ | ⟨_, _, h⟩ | ⟨h1, h2, _⟩
  · omega
  · omega
  · refine ⟨h1, fun k hk => ?_⟩
    have h3 := lastP_ge (gs := gs) (k := k) fun j hj => h2 j (by omega)
    have h4 := h2 k hk
    unfold okPg pgOk at h4
    omega
end Go.Proofs.YtdgjcjhdclihpaaDoor
