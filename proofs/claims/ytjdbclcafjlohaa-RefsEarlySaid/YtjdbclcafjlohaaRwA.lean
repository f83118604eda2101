/- Whether a thing's records may be: the plain law, and the contract of ringref4.life. -/
import Derived.Test.YtjdbclcafjlohaaRfB
namespace Go.Proofs.Ytjdbclcafjlohaa
open Go.RowKit
set_option maxHeartbeats 400000
set_option linter.unusedVariables false
set_option linter.unusedSimpArgs false
/-- What one record does to a thing that is in a state and is held so often; none: it may not be. -/
def lifeStep (s : Int × Int) (k : Int) : Option (Int × Int) :=
  if k = 5 then (if s.1 = 0 then some (1, 1) else none)
  else if k = 6 then (if 1 ≤ s.2 then some (s.1, s.2 + 1) else none)
  else if k = 7 then (if 1 ≤ s.2 then some (s.1, s.2 - 1) else none)
  else if k = 8 then (if s.1 = 1 ∧ s.2 = 0 then some (2, s.2) else none)
  else if k = 9 then (if s.1 = 2 then some (0, s.2) else none)
  else some s
def lf1 (o : Int) (s : Option (Int × Int)) (r : Rc) : Option (Int × Int) := s.bind fun s => if r.o = o then lifeStep s r.k else some s
def lf (rs : List Rc) (o : Int) : Option (Int × Int) := rs.foldl (lf1 o) (some (0, 0))
theorem lf_take (rs : List Rc) (k : Nat) (h : k < rs.length) (o : Int) : lf (rs.take (k + 1)) o = lf1 o (lf (rs.take k) o) (rs.getD k .zero) := by
  unfold lf
  rw [List.take_succ_eq_append_getElem h, List.foldl_append]
  simp [List.getD, List.getElem?_eq_getElem h]
theorem foldl_none (rs : List Rc) (o : Int) : rs.foldl (lf1 o) none = none := by
  induction rs with
  | nil => rfl
  | cons a rs ih => simpa [lf1] using ih
theorem lf_none {rs : List Rc} {k : Nat} {o : Int} (h : lf (rs.take k) o = none) : lf rs o = none := by
  have : lf rs o = (rs.drop k).foldl (lf1 o) (lf (rs.take k) o) := by unfold lf; rw [← List.foldl_append, List.take_append_drop]
  rw [this, h, foldl_none]
theorem lf_inv (rs : List Rc) (o : Int) (k : Nat) (h : k ≤ rs.length) (s n : Int) (hs : lf (rs.take k) o = some (s, n)) : (s = 0 ∨ s = 1 ∨ s = 2) ∧ -(k : Int) ≤ n ∧ n ≤ k := by
  induction k generalizing s n with
  | zero => simp [lf] at hs; omega
  | succ k ih =>
    rw [lf_take rs k (by omega)] at hs
    obtain ⟨⟨s', n'⟩, h1, h2⟩ := Option.bind_eq_some_iff.1 hs
    have := ih (by omega) s' n' h1
    unfold lifeStep at h2
    (repeat' split at h2) <;> simp at h2 <;> omega
def LifePost (w : World) (x : Option (Int × Int)) (e : Ending) (w' : World) : Prop :=
  e = .returned (.tuple #[.int .i64 (x.getD (0, 0)).1, .int .i64 (x.getD (0, 0)).2, .bool x.isSome]) ∧ Below w.heap.size w w'
theorem LifePost.bad {w w' : World} {x : Option (Int × Int)} (h : x = none) (hb : Below w.heap.size w w') : LifePost w x (.returned (.tuple #[.int .i64 0, .int .i64 0, .bool false])) w' := by subst h; exact ⟨rfl, hb⟩
theorem LifePost.good {w w' : World} {x : Option (Int × Int)} {s n : Int} (h : x = some (s, n)) (hb : Below w.heap.size w w') : LifePost w x (.returned (.tuple #[.int .i64 s, .int .i64 n, .bool true])) w' := by subst h; exact ⟨rfl, hb⟩
theorem lf1_some {o : Int} {s n : Int} {r : Rc} {x : Option (Int × Int)} (hx : x = some (s, n)) : lf1 o x r = if r.o = o then lifeStep (s, n) r.k else some (s, n) := by subst hx; rfl
def LifeRel (w : World) (rs : List Rc) (o : Int) (k : Nat) (s n : Value) (wr : World) : Prop := ∃ p q, s = .int .i64 p ∧ n = .int .i64 q ∧ lf (rs.take k) o = some (p, q) ∧ Below w.heap.size w wr
set_option maxHeartbeats 4000000 in
set_option maxRecDepth 100000 in
theorem life_any (A : Option Addr) (n c : Nat) (rs : List Rc) (o : Int) (w : World) (B : Nat) (h : RR w B A n rs) (hB : B ≤ w.heap.size) (hn : n ≤ 400) :
    Calls Try.prog 39 #[.slice A n c, .int .i64 o] w (LifePost w (lf rs o)) := by
  have HL := Lib.hid h.2
  have hrel0 : LifeRel w rs o 0 (.int .i64 0) (.int .i64 0) w := ⟨0, 0, rfl, rfl, rfl, Below.refl _ _⟩
  go_enter Try.func39, Try.ntmps39
  go_wp2
  go_loopw [7, 8, 13] (fun s m i wr => ∃ k : Nat, k ≤ n ∧ i = .int .i64 k ∧ LifeRel w rs o k s m wr) (fun _ _ i _ => n - (intOf i).toNat)
  case atStart => exact ⟨0, by omega, rfl, hrel0⟩
  case round =>
    obtain ⟨k, hk, rfl, p, q, rfl, rfl, hlf, hbw⟩ := hrel
    clear hrel0
    by_cases hlt : k < n
    · obtain ⟨b, of, rfl, hb, c0, c1, c2, c3⟩ := (h.below' hbw hB).at_ hlt
      have hT := Lib.hid ((lf_take rs k (by rw [HL.out]; exact hlt) o).trans (lf1_some hlf))
      have hbd := lf_inv rs o k (by rw [HL.out]; exact hk) p q hlf
      clear hlf
      have hbw' : ∀ X, Below w.heap.size w (wr.alloc X) := fun X => hbw.alloc hbw.size X
      have hNo := Lib.hid (fun hx : lf (rs.take (k + 1)) o = none => lf_none hx)
      generalize rs.getD k .zero = r at *
      by_cases ho : r.o = o
      · have ho' : (r.o != o) = false := by simpa using ho
        have hT2 := Lib.hid (hT.out.trans (if_pos ho))
        have HO := Lib.hid ho
        clear hT ho
        by_cases h5 : r.k = 5
        · by_cases hp : p = 0
          · have hT3 := Lib.hid (hT2.out.trans (show lifeStep (p, q) r.k = some (1, 1) by simp [lifeStep, h5, hp]))
            clear hT2
            go_wp2
            go_roundw
            case rel => exact ⟨k + 1, by omega, by go_num, 1, 1, rfl, rfl, hT3.out, hbw' _⟩
            case measure => simp [intOf]; omega
          · have hT3 := Lib.hid (hT2.out.trans (show lifeStep (p, q) r.k = none by simp [lifeStep, h5, hp]))
            have hp' : (p != 0) = true := by simpa using hp
            clear hT2
            go_wp2
            go_ret3
            exact .bad (hNo.out hT3.out) (hbw' _)
        by_cases h6 : r.k = 6
        · by_cases hq : 1 ≤ q
          · have hq' : ¬ q < 1 := by omega
            have hT3 := Lib.hid (hT2.out.trans (show lifeStep (p, q) r.k = some (p, q + 1) by simp [lifeStep, h6, hq]))
            clear hT2
            go_wp2
            go_roundw
            case rel => exact ⟨k + 1, by omega, by go_num, _, _, rfl, rfl, hT3.out, hbw' _⟩
            case measure => simp [intOf]; omega
          · have hq' : q < 1 := by omega
            have hT3 := Lib.hid (hT2.out.trans (show lifeStep (p, q) r.k = none by simp [lifeStep, h6, hq]))
            clear hT2
            go_wp2
            go_ret3
            exact .bad (hNo.out hT3.out) (hbw' _)
        by_cases h7 : r.k = 7
        · by_cases hq : 1 ≤ q
          · have hq' : ¬ q < 1 := by omega
            have hT3 := Lib.hid (hT2.out.trans (show lifeStep (p, q) r.k = some (p, q - 1) by simp [lifeStep, h7, hq]))
            clear hT2
            go_wp2
            go_roundw
            case rel => exact ⟨k + 1, by omega, by go_num, _, _, rfl, rfl, hT3.out, hbw' _⟩
            case measure => simp [intOf]; omega
          · have hq' : q < 1 := by omega
            have hT3 := Lib.hid (hT2.out.trans (show lifeStep (p, q) r.k = none by simp [lifeStep, h7, hq]))
            clear hT2
            go_wp2
            go_ret3
            exact .bad (hNo.out hT3.out) (hbw' _)
        by_cases h8 : r.k = 8
        · by_cases hp : p = 1
          · have hp' : (p != 1) = false := by simpa using hp
            by_cases hq : q = 0
            · have hq' : (q != 0) = false := by simpa using hq
              have hT3 := Lib.hid (hT2.out.trans (show lifeStep (p, q) r.k = some (2, q) by simp [lifeStep, h8, hp, hq]))
              clear hT2
              go_wp2
              go_roundw
              case rel => exact ⟨k + 1, by omega, by go_num, _, _, rfl, rfl, hT3.out, hbw' _⟩
              case measure => simp [intOf]; omega
            · have hq' : (q != 0) = true := by simpa using hq
              have hT3 := Lib.hid (hT2.out.trans (show lifeStep (p, q) r.k = none by simp [lifeStep, h8, hp, hq]))
              clear hT2
              go_wp2
              go_ret3
              exact .bad (hNo.out hT3.out) (hbw' _)
          · have hp' : (p != 1) = true := by simpa using hp
            have hT3 := Lib.hid (hT2.out.trans (show lifeStep (p, q) r.k = none by simp [lifeStep, h8, hp]))
            clear hT2
            go_wp2
            go_ret3
            exact .bad (hNo.out hT3.out) (hbw' _)
        by_cases h9 : r.k = 9
        · by_cases hp : p = 2
          · have hp' : (p != 2) = false := by simpa using hp
            have hT3 := Lib.hid (hT2.out.trans (show lifeStep (p, q) r.k = some (0, q) by simp [lifeStep, h9, hp]))
            clear hT2
            go_wp2
            go_roundw
            case rel => exact ⟨k + 1, by omega, by go_num, _, _, rfl, rfl, hT3.out, hbw' _⟩
            case measure => simp [intOf]; omega
          · have hp' : (p != 2) = true := by simpa using hp
            have hT3 := Lib.hid (hT2.out.trans (show lifeStep (p, q) r.k = none by simp [lifeStep, h9, hp]))
            clear hT2
            go_wp2
            go_ret3
            exact .bad (hNo.out hT3.out) (hbw' _)
        have hT3 := Lib.hid (hT2.out.trans (show lifeStep (p, q) r.k = some (p, q) by simp [lifeStep, h5, h6, h7, h8, h9]))
        clear hT2
        go_wp2
        go_roundw
        case rel => exact ⟨k + 1, by omega, by go_num, _, _, rfl, rfl, hT3.out, hbw' _⟩
        case measure => simp [intOf]; omega
      · have ho' : (r.o != o) = true := by simpa using ho
        have hT2 := Lib.hid (hT.out.trans (if_neg ho))
        clear hT ho
        go_wp2
        go_roundw
        case rel => exact ⟨k + 1, by omega, by go_num, _, _, rfl, rfl, hT2.out, hbw' _⟩
        case measure => simp [intOf]; omega
    · rw [List.take_of_length_le (by rw [HL.out]; omega)] at hlf
      have HF := Lib.hid hlf
      clear hlf
      go_wp2
      go_ret3
      exact .good HF.out hbw
end Go.Proofs.Ytjdbclcafjlohaa
