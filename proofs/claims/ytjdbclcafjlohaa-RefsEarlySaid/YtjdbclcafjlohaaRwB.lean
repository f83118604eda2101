/- The first record that may not be: what is told of it, and the contract of ringref4.RefWrong. -/
import Derived.Test.YtjdbclcafjlohaaRwA
import Derived.IntWalk
namespace Go.Proofs.Ytjdbclcafjlohaa
open Go.RowKit
set_option maxHeartbeats 400000
set_option linter.unusedVariables false
set_option linter.unusedSimpArgs false
def okAt (rs : List Rc) (k : Nat) : Prop := (lf (rs.take (k + 1)) (rs.getD k .zero).o).isSome = true
def WrongIs (rs : List Rc) (a b : Int) : Prop := (traceErr rs ≠ 0 ∧ a = 0 ∧ b = traceErr rs) ∨ (traceErr rs = 0 ∧ ∃ k : Nat, k < rs.length ∧ (∀ j, j < k → okAt rs j) ∧ ¬ okAt rs k ∧ a = k ∧ b = 0) ∨ (traceErr rs = 0 ∧ (∀ j, j < rs.length → okAt rs j) ∧ a = 0 ∧ b = 4)
theorem WrongIs.unique {rs : List Rc} {a b a' b' : Int} (h : WrongIs rs a b) (h' : WrongIs rs a' b') : a = a' ∧ b = b' := by
  rcases h with ⟨h1, rfl, rfl⟩ | ⟨h1, k, hk, h2, h3, rfl, rfl⟩ | ⟨h1, h2, rfl, rfl⟩ <;> rcases h' with ⟨g1, rfl, rfl⟩ | ⟨g1, k', hk', g2, g3, rfl, rfl⟩ | ⟨g1, g2, rfl, rfl⟩
  · exact ⟨rfl, rfl⟩
  · exact absurd g1 h1
  · exact absurd g1 h1
  · exact absurd h1 g1
  · rcases Nat.lt_trichotomy k k' with hh | hh | hh
    · exact absurd (g2 k hh) h3
    · subst hh; exact ⟨rfl, rfl⟩
    · exact absurd (h2 k' hh) g3
  · exact absurd (g2 k hk) h3
  · exact absurd h1 g1
  · exact absurd (h2 k' hk') g3
  · exact ⟨rfl, rfl⟩
theorem all_some {rs : List Rc} {k : Nat} (hk : k ≤ rs.length) (h : ∀ j, j < k → okAt rs j) (o : Int) : ∃ p q, lf (rs.take k) o = some (p, q) := by
  induction k with
  | zero => exact ⟨0, 0, rfl⟩
  | succ k ih =>
    obtain ⟨p, q, hpq⟩ := ih (by omega) (fun j hj => h j (by omega))
    by_cases ho : (rs.getD k .zero).o = o
    · have := h k (by omega)
      unfold okAt at this
      rw [ho] at this
      obtain ⟨⟨p', q'⟩, hx⟩ := Option.isSome_iff_exists.1 this
      exact ⟨p', q', hx⟩
    · exact ⟨p, q, by rw [lf_take rs k (by omega), lf1_some hpq, if_neg ho]⟩
theorem okAt_low {rs : List Rc} {k : Nat} (hk : k < rs.length) (h : ∀ j, j < k → okAt rs j) (hl : (rs.getD k .zero).k < 5) : okAt rs k := by
  unfold okAt
  obtain ⟨p, q, hpq⟩ := all_some (Nat.le_of_lt hk) h (rs.getD k .zero).o
  rw [lf_take rs k hk, lf1_some hpq, if_pos rfl]
  unfold lifeStep
  rw [if_neg (by omega), if_neg (by omega), if_neg (by omega), if_neg (by omega), if_neg (by omega)]
  rfl
theorem ok_next {p : Nat → Prop} {k : Nat} (h : ∀ j, j < k → p j) (hk : p k) : ∀ j, j < k + 1 → p j := fun j hj => by
  rcases Nat.lt_or_ge j k with hjk | hjk
  · exact h j hjk
  · obtain rfl : j = k := by omega
    exact hk
def WrongPost (rs : List Rc) (w : World) (e : Ending) (w' : World) : Prop := ∃ a b, e = .returned (.tuple #[.int .i64 a, .int .i64 b]) ∧ WrongIs rs a b ∧ Below w.heap.size w w'
theorem WrongIs.at_ {rs : List Rc} {k : Nat} (ht : traceErr rs = 0) (hk : k < rs.length) (h : ∀ j, j < k → okAt rs j) (x : ¬ okAt rs k) : WrongIs rs k 0 := .inr (.inl ⟨ht, k, hk, h, x, rfl, rfl⟩)
theorem RR.head {w : World} {B n : Nat} {A : Option Addr} {rs : List Rc} (h : RR w B A n rs) {k : Nat} (hk : k ≤ n) : RR w B A k (rs.take k) := by
  obtain ⟨⟨h1, h2⟩, h3⟩ := h
  have hl : (rs.take k).length = k := by simp; omega
  have hfl : ∀ l : List Rc, (l.flatMap Rc.cells).length = l.length * 4 := by
    intro l
    induction l with
    | nil => rfl
    | cons a l ih => rw [List.flatMap_cons, List.length_append, ih]; simp [Rc.cells]; omega
  refine ⟨⟨?_, fun hk0 => ?_⟩, hl⟩
  · rw [hfl, hl]
  · obtain ⟨b, o, e, hb, hc⟩ := h2 (by omega)
    refine ⟨b, o, e, hb, fun j u hu => hc j u ?_⟩
    have e1 : rs.flatMap Rc.cells = (rs.take k).flatMap Rc.cells ++ (rs.drop k).flatMap Rc.cells := by rw [← List.flatMap_append, List.take_append_drop]
    rw [e1]
    rw [List.getElem?_append_left]
    · exact hu
    · exact (List.getElem?_eq_some_iff.1 hu).1
set_option maxHeartbeats 4000000 in
set_option maxRecDepth 100000 in
theorem refWrong_any (A : Option Addr) (n c : Nat) (rs : List Rc) (w : World) (B : Nat) (h : RR w B A n rs) (hB : B ≤ w.heap.size) (hnc : n ≤ c) (hn : n ≤ 9223372036854775807) :
    Calls Try.prog 23 #[.slice A n c] w (WrongPost rs w) := by
  have HL := Lib.hid h.2
  by_cases ht : traceErr rs = 0
  · obtain ⟨hsm, hgd⟩ := traceErr_good ht
    have hsm' : n ≤ 400 := by rw [HL.out] at hsm; exact hsm
    have HT := Lib.hid ht
    have HG := Lib.hid hgd
    clear hsm hgd
    go_enter Try.func23, Try.ntmps23
    go_wp2_with (go_at_call 37; refine (fault_any A n c rs _ B h hB hn).mono ?_; rintro e w1 ⟨rfl, hb1⟩; rw [ht])
    clear ht
    go_loopw [17] (fun i wr => ∃ k : Nat, k ≤ n ∧ i = .int .i64 k ∧ Hid (∀ j, j < k → okAt rs j) ∧ Below w.heap.size w wr) (fun i _ => n - (intOf i).toNat)
    case atStart => exact ⟨0, by omega, rfl, Lib.hid (fun j hj => by omega), hb1⟩
    case round =>
      obtain ⟨k, hk, rfl, hok, hbw⟩ := hrel
      by_cases hlt : k < n
      · have hr := h.below' hbw hB
        have hr' := hr.head (show k + 1 ≤ n by omega)
        obtain ⟨b, of, rfl, hb, c0, c1, c2, c3⟩ := hr.at_ hlt
        have hlen : k < rs.length := by rw [HL.out]; exact hlt
        have hLow := Lib.hid (okAt_low hlen hok.out)
        have hOk := Lib.hid (fun x : okAt rs k => ok_next hok.out x)
        have hBad := Lib.hid (WrongIs.at_ HT.out hlen hok.out)
        have hbw' : ∀ X, Below w.heap.size w (wr.alloc X) := fun X => hbw.alloc hbw.size X
        unfold okAt at hOk hLow hBad
        generalize rs.getD k .zero = r at *
        by_cases h5 : r.k < 5
        · go_wp2
          go_roundw
          case rel => exact ⟨k + 1, by omega, by go_num, Lib.hid (hOk.out (hLow.out h5)), hbw' _⟩
          case measure => simp [intOf]; omega
        · have h5' : 5 ≤ r.k := by omega
          have hck : (k : Int) + 1 ≤ c := by omega
          have hck' : k + 1 ≤ c := by omega
          have hBr : B ≤ wr.heap.size := Nat.le_trans hB hbw.size
          have hz : wr.heap.size < wr.heap.size + 1 := Nat.lt_succ_self _
          have hk1 : IntKind.i64.wrap ((k : Int) + 1) = (k : Int) + 1 := IntWalk.i64_in _ (by omega)
          have hk2 : (0 : Int) ≤ (k : Int) + 1 := by omega
          have hk3 : ((k : Int) + 1).toNat = k + 1 := by omega
          have hsz2 : ∀ {X : Obj} (x : Near (wr.heap.size + 1) (wr.alloc X)), wr.heap.size + 1 ≤ x.val.heap.size := fun x => by have := x.size; simpa using this
          go_wp2_with fail
          refine wp_region_near (wr.heap.size + 1) (by kernel_rfl) (by kernel_rfl) ?_
          repeat (go_big_quiet_step ((go_at_call 39; exact Calls.near (hsz2 _) (life_any _ (k + 1) c (rs.take (k + 1)) r.o _ B ((hr'.below' ((Below.refl _ _).alloc (Nat.le_refl _) _) hBr).below' (Near.prop _) (Nat.le_succ_of_le hBr)) (Nat.le_trans (Nat.le_succ_of_le hBr) (hsz2 _)) (by omega)))))
          refine wpQuiet_nil ?_
          intro w3 hb3
          clear hk1 hk2 hk3
          have hbw3 := (hbw' _).trans (hb3.mono (Nat.le_succ_of_le hbw.size))
          generalize lf (rs.take (k + 1)) r.o = x at *
          cases x with
          | none =>
            go_wp2
            go_ret2
            exact ⟨_, _, rfl, hBad.out (by simp), hbw3⟩
          | some pq =>
            go_wp2
            go_roundw
            case rel => exact ⟨k + 1, by omega, by go_num, Lib.hid (hOk.out rfl), hbw3⟩
            case measure => simp [intOf]; omega
      · obtain rfl : k = n := by omega
        go_wp2
        go_ret2
        exact ⟨_, _, rfl, .inr (.inr ⟨HT.out, fun j hj => hok.out j (by rw [HL.out] at hj; exact hj), rfl, rfl⟩), hbw⟩
  · have ht' : (traceErr rs != 0) = true := by simpa using ht
    go_enter Try.func23, Try.ntmps23
    go_wp2_with (go_at_call 37; refine (fault_any A n c rs _ B h hB hn).mono ?_; rintro e w1 ⟨rfl, hb1⟩)
    go_ret2
    exact ⟨_, _, rfl, .inl ⟨ht, rfl, rfl⟩, hb1⟩
end Go.Proofs.Ytjdbclcafjlohaa
