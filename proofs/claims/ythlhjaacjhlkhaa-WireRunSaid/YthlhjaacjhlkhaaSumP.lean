/- Plain laws of the ones' complement sum: no program in sight. -/
namespace Go.Proofs.Ythlhjaacjhlkhaa
set_option linter.unusedVariables false
/-- What a byte at place i counts. -/
def wt (i : Nat) (x : Int) : Int := if i % 2 = 0 then x * 256 else x
/-- All of them, from place i on. -/
def tot : Nat → List Int → Int
  | _, [] => 0
  | i, x :: xs => wt i x + tot (i + 1) xs
/-- The number in 0 .. 65535 that a sum folds to. -/
def canon (n : Int) : Int := if n = 0 then 0 else (n - 1) % 65535 + 1
theorem canon_range (n : Int) (h : 0 ≤ n) : 0 ≤ canon n ∧ canon n ≤ 65535 := by unfold canon; split <;> omega
theorem canon_small (n : Int) (h0 : 0 ≤ n) (h : n ≤ 65535) : canon n = n := by unfold canon; split <;> omega
theorem canon_fold (n : Int) (h : 65535 < n) : canon (n / 65536 + n % 65536) = canon n := by unfold canon; split <;> split <;> omega
theorem canon_add (n x : Int) (h0 : 0 ≤ n) (hx : 0 ≤ x) (hx2 : x ≤ 65535) : (canon n + x) % 65536 + (canon n + x) / 65536 = canon (n + x) := by
  have := canon_range n h0
  unfold canon at *; split at * <;> split at * <;> omega
theorem wt_range (i : Nat) (x : Int) (h : 0 ≤ x ∧ x < 256) : 0 ≤ wt i x ∧ wt i x ≤ 65280 := by unfold wt; split <;> omega
theorem tot_snoc (xs : List Int) : ∀ (i : Nat) (x : Int), tot i (xs ++ [x]) = tot i xs + wt (i + xs.length) x := by
  induction xs with
  | nil => intro i x; simp [tot]
  | cons y ys ih => intro i x; simp only [List.cons_append, tot, ih, List.length_cons]; rw [show i + 1 + ys.length = i + (ys.length + 1) by omega]; omega
theorem tot_take (xs : List Int) (k : Nat) (h : k < xs.length) : tot 0 (xs.take (k + 1)) = tot 0 (xs.take k) + wt k (xs.getD k 0) := by
  rw [List.take_succ_eq_append_getElem h, tot_snoc, List.length_take]
  congr 2
  · omega
  · simp [List.getD, List.getElem?_eq_getElem h]
theorem tot_range (xs : List Int) (h : ∀ x ∈ xs, 0 ≤ x ∧ x < 256) : ∀ i, 0 ≤ tot i xs ∧ tot i xs ≤ 65280 * xs.length := by
  induction xs with
  | nil => intro i; simp [tot]
  | cons x xs ih =>
    intro i
    have h1 := wt_range i x (h x (by simp))
    have h2 := ih (fun y hy => h y (by simp [hy])) (i + 1)
    simp only [tot, List.length_cons]
    omega
/-- P50.2. -/
def sumI (xs : List Int) : Int := 65535 - canon (tot 0 xs)
end Go.Proofs.Ythlhjaacjhlkhaa
