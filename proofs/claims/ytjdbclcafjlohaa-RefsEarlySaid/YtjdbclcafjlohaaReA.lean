/- Who reads: the plain law, and contracts of ringref4.depth and ringref4.RefEarly. -/
import Derived.Test.YtjdbclcafjlohaaTkA
import Derived.IntWalk
namespace Go.Proofs.Ytjdbclcafjlohaa
open Go.RowKit
set_option maxHeartbeats 400000
set_option linter.unusedVariables false
set_option linter.unusedSimpArgs false
/-- How often a task reads behind a record. -/
def dp1 (t : Int) (s : Int) (r : Rc) : Int := if r.t = t then (if r.k = 3 then s + 1 else if r.k = 4 then (if 0 < s then s - 1 else s) else s) else s
def dp (rs : List Rc) (t : Int) : Int := rs.foldl (dp1 t) 0
theorem dp_take (rs : List Rc) (k : Nat) (h : k < rs.length) (t : Int) : dp (rs.take (k + 1)) t = dp1 t (dp (rs.take k) t) (rs.getD k .zero) := by
  unfold dp
  rw [List.take_succ_eq_append_getElem h, List.foldl_append]
  simp [List.getD, List.getElem?_eq_getElem h]
theorem dp_rng (rs : List Rc) (t : Int) (k : Nat) (h : k ≤ rs.length) : 0 ≤ dp (rs.take k) t ∧ dp (rs.take k) t ≤ k := by
  induction k with
  | zero => simp [dp]
  | succ k ih =>
    rw [dp_take rs k (by omega)]
    have h1 := ih (by omega)
    unfold dp1
    (repeat' split) <;> omega
set_option maxHeartbeats 2000000 in
set_option maxRecDepth 100000 in
theorem depth_any (A : Option Addr) (n c : Nat) (rs : List Rc) (t : Int) (w : World) (B : Nat) (h : RR w B A n rs) (hB : B ≤ w.heap.size) (hn : n ≤ 400) :
    Calls Try.prog 40 #[.slice A n c, .int .i64 t] w fun e w' => e = .returned (.int .i64 (dp rs t)) ∧ Below w.heap.size w w' := by
  have HL := Lib.hid h.2
  have HD := Lib.hid (show dp rs t = dp (rs.take n) t by rw [List.take_of_length_le (by rw [HL.out]; exact Nat.le_refl _)])
  go_enter Try.func40, Try.ntmps40
  go_wp2
  go_loopw [5, 10] (fun s i wr => ∃ k : Nat, k ≤ n ∧ i = .int .i64 k ∧ s = .int .i64 (dp (rs.take k) t) ∧ Below w.heap.size w wr) (fun _ i _ => n - (intOf i).toNat)
  case atStart => exact ⟨0, by omega, rfl, rfl, Below.refl _ _⟩
  case round =>
    obtain ⟨k, hk, rfl, rfl, hbw⟩ := hrel
    by_cases hlt : k < n
    · obtain ⟨b, of, rfl, hb, c0, c1, c2, c3⟩ := (h.below' hbw hB).at_ hlt
      have hT := Lib.hid (dp_take rs k (by rw [HL.out]; exact hlt) t)
      have hrg := dp_rng rs t k (by rw [HL.out]; exact hk)
      have hbw' : ∀ X, Below w.heap.size w (wr.alloc X) := fun X => hbw.alloc hbw.size X
      generalize rs.getD k .zero = r at *
      generalize dp (rs.take k) t = s at *
      by_cases ht : r.t = t
      · have ht' : (r.t == t) = true := by simpa using ht
        have hT2 := Lib.hid (hT.out.trans (if_pos ht))
        clear hT ht
        by_cases k3 : r.k = 3
        · have hT3 := Lib.hid (hT2.out.trans (if_pos k3))
          clear hT2
          go_wp2
          go_roundw
          case rel => exact ⟨k + 1, by omega, by go_num, by rw [hT3.out], hbw' _⟩
          case measure => simp [intOf]; omega
        have hT3 := Lib.hid (hT2.out.trans (if_neg k3))
        clear hT2
        by_cases k4 : r.k = 4
        · have hT4 := Lib.hid (hT3.out.trans (if_pos k4))
          clear hT3
          by_cases hs : 0 < s
          · have hT5 := Lib.hid (hT4.out.trans (if_pos hs))
            clear hT4
            go_wp2
            go_roundw
            case rel => exact ⟨k + 1, by omega, by go_num, by rw [hT5.out], hbw' _⟩
            case measure => simp [intOf]; omega
          · have hT5 := Lib.hid (hT4.out.trans (if_neg hs))
            clear hT4
            go_wp2
            go_roundw
            case rel => exact ⟨k + 1, by omega, by go_num, by rw [hT5.out], hbw' _⟩
            case measure => simp [intOf]; omega
        have hT4 := Lib.hid (hT3.out.trans (if_neg k4))
        clear hT3
        go_wp2
        go_roundw
        case rel => exact ⟨k + 1, by omega, by go_num, by rw [hT4.out], hbw' _⟩
        case measure => simp [intOf]; omega
      · have ht' : (r.t == t) = false := by simpa using ht
        have hT2 := Lib.hid (hT.out.trans (if_neg ht))
        clear hT ht
        go_wp2
        go_roundw
        case rel => exact ⟨k + 1, by omega, by go_num, by rw [hT2.out], hbw' _⟩
        case measure => simp [intOf]; omega
    · obtain rfl : k = n := by omega
      go_wp2
      go_ret
      exact ⟨by rw [HD.out]; rfl, hbw⟩
/-- A record that wishes o away. -/
def isLater (rs : List Rc) (o : Int) (k : Nat) : Prop := (rs.getD k .zero).k = 8 ∧ (rs.getD k .zero).o = o
def lastLater (rs : List Rc) (o : Int) (i k : Nat) : Prop := k < i ∧ isLater rs o k ∧ ∀ j, k < j → j < i → ¬ isLater rs o j
theorem lastLater.unique {rs : List Rc} {o : Int} {i k k' : Nat} (h : lastLater rs o i k) (h' : lastLater rs o i k') : k = k' := by
  rcases Nat.lt_trichotomy k k' with hh | hh | hh
  · exact absurd h'.2.1 (h.2.2 k' hh h'.1)
  · exact hh
  · exact absurd h.2.1 (h'.2.2 k hh h.1)
/-- A task reads at k, and at all times up to i. -/
def readsAll (rs : List Rc) (t : Int) (k i : Nat) : Prop := 0 < dp (rs.take k) t ∧ ∀ m, k < m → m < i → 0 < dp (rs.take (m + 1)) t
def badE (rs : List Rc) (i : Nat) : Prop := (rs.getD i .zero).k = 9 ∧ ∃ k, lastLater rs (rs.getD i .zero).o i k ∧ ∃ t : Nat, 1 ≤ t ∧ t ≤ 16 ∧ readsAll rs t k i
def noneYet (rs : List Rc) (k i t : Nat) : Prop := ∀ t' : Nat, 1 ≤ t' → t' < t → ¬ readsAll rs t' k i
theorem noneYet.next {rs : List Rc} {k i t : Nat} (h : noneYet rs k i t) (hn : ¬ readsAll rs t k i) : noneYet rs k i (t + 1) := fun t' h1 h2 => by
  rcases Nat.lt_or_ge t' t with h3 | h3
  · exact h t' h1 h3
  · obtain rfl : t' = t := by omega
    exact hn
theorem readsAll_snoc {rs : List Rc} {t : Int} {k m : Nat} (hkm : k < m) : readsAll rs t k (m + 1) ↔ readsAll rs t k m ∧ 0 < dp (rs.take (m + 1)) t :=
  ⟨fun h => ⟨⟨h.1, fun j h1 h2 => h.2 j h1 (by omega)⟩, h.2 m hkm (Nat.lt_succ_self _)⟩, fun h => ⟨h.1.1, fun j h1 h2 => by
    rcases Nat.lt_or_ge j m with h3 | h3
    · exact h.1.2 j h1 h3
    · obtain rfl : j = m := by omega
      exact h.2⟩⟩
theorem readsAll_first {rs : List Rc} {t : Int} {k : Nat} : readsAll rs t k (k + 1) ↔ 0 < dp (rs.take k) t := ⟨fun h => h.1, fun h => ⟨h, fun m h1 h2 => by omega⟩⟩
end Go.Proofs.Ytjdbclcafjlohaa
