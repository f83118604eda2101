/- Admission: the plain law of rounds and shares. -/
import Derived.Below
namespace Go.Proofs.Ytjcbnanajelpjaa
set_option linter.unusedVariables false
set_option linter.unusedSimpArgs false
def adPrimes : List Nat := [2, 3, 5, 7, 11, 13, 17, 19, 23, 29]
/-- How much of k is made of p (f: rounds at most). -/
def part (p : Nat) : Nat → Nat → Nat
  | 0, _ => 1
  | f + 1, k => if k % p = 0 then p * part p f (k / p) else 1
def ppart (p k : Nat) : Nat := part p 6 k
def IsPow (p x : Nat) : Prop := ∃ e, x = p ^ e
theorem part_pow (p : Nat) : ∀ f k, IsPow p (part p f k)
  | 0, _ => ⟨0, rfl⟩
  | f + 1, k => by
    unfold part
    split
    · obtain ⟨e, h⟩ := part_pow p f (k / p)
      exact ⟨e + 1, by rw [h, Nat.pow_succ, Nat.mul_comm]⟩
    · exact ⟨0, rfl⟩
theorem isPow_max {p x y : Nat} (hx : IsPow p x) (hy : IsPow p y) : IsPow p (max x y) := by
  rcases Nat.le_total x y with h | h
  · rw [Nat.max_eq_right h]; exact hy
  · rw [Nat.max_eq_left h]; exact hx
theorem pow_dvd_max {p x y M : Nat} (hp : 2 ≤ p) (hx : IsPow p x) (hy : IsPow p y) : max x y ∣ M ↔ x ∣ M ∧ y ∣ M := by
  obtain ⟨a, rfl⟩ := hx
  obtain ⟨b, rfl⟩ := hy
  have le_of : ∀ {a b : Nat}, p ^ a ≤ p ^ b → p ^ a ∣ p ^ b := fun {a b} h => Nat.pow_dvd_pow p ((Nat.pow_le_pow_iff_right (by omega)).1 h)
  rcases Nat.le_total (p ^ a) (p ^ b) with h | h
  · rw [Nat.max_eq_right h]; exact ⟨fun k => ⟨Nat.dvd_trans (le_of h) k, k⟩, fun k => k.2⟩
  · rw [Nat.max_eq_left h]; exact ⟨fun k => ⟨k, Nat.dvd_trans (le_of h) k⟩, fun k => k.1⟩
def mostF (p m : Nat) (k : Nat) : Nat := max m (ppart p k)
def most (p : Nat) (ks : List Nat) : Nat := ks.foldl (mostF p) 1
theorem most_from (p : Nat) (hp : 2 ≤ p) : ∀ (ks : List Nat) (m : Nat), IsPow p m → IsPow p (ks.foldl (mostF p) m) ∧ ∀ M, ks.foldl (mostF p) m ∣ M ↔ m ∣ M ∧ ∀ k ∈ ks, ppart p k ∣ M
  | [], m, hm => ⟨hm, fun M => by simp⟩
  | k :: ks, m, hm => by
    have h1 := isPow_max hm (part_pow p 6 k)
    obtain ⟨h2, h3⟩ := most_from p hp ks (mostF p m k) h1
    refine ⟨h2, fun M => ?_⟩
    rw [List.foldl_cons, h3 M, show mostF p m k = max m (part p 6 k) from rfl, pow_dvd_max hp hm (part_pow p 6 k)]
    simp only [List.mem_cons, forall_eq_or_imp, ppart]
    exact ⟨fun ⟨⟨a, b⟩, c⟩ => ⟨a, b, c⟩, fun ⟨a, b, c⟩ => ⟨⟨a, b⟩, c⟩⟩
theorem most_dvd (p : Nat) (hp : 2 ≤ p) (ks : List Nat) (M : Nat) : most p ks ∣ M ↔ ∀ k ∈ ks, ppart p k ∣ M := by
  have := (most_from p hp ks 1 ⟨0, rfl⟩).2 M
  simpa [most] using this
theorem most_pow (p : Nat) (hp : 2 ≤ p) (ks : List Nat) : IsPow p (most p ks) := (most_from p hp ks 1 ⟨0, rfl⟩).1
/-- A product over pairwise coprime primes. -/
def prodF (f : Nat → Nat) : List Nat → Nat → Nat
  | [], n => n
  | p :: ps, n => prodF f ps (n * f p)
theorem prodF_dvd (f : Nat → Nat) (M : Nat) : ∀ (ps : List Nat) (n : Nat), (∀ p ∈ ps, Nat.Coprime n (f p)) → ps.Pairwise (fun p q => Nat.Coprime (f p) (f q)) → (prodF f ps n ∣ M ↔ n ∣ M ∧ ∀ p ∈ ps, f p ∣ M)
  | [], n, _, _ => by simp [prodF]
  | p :: ps, n, hc, hp => by
    have hp' := List.pairwise_cons.1 hp
    rw [prodF, prodF_dvd f M ps (n * f p) (fun q hq => Nat.Coprime.mul_left (hc q (by simp [hq])) (hp'.1 q hq)) hp'.2]
    simp only [List.mem_cons, forall_eq_or_imp]
    constructor
    · rintro ⟨h1, h2⟩
      exact ⟨Nat.dvd_trans (Nat.dvd_mul_right _ _) h1, Nat.dvd_trans (Nat.dvd_mul_left _ _) h1, h2⟩
    · rintro ⟨h1, h2, h3⟩
      exact ⟨Nat.Coprime.mul_dvd_of_dvd_of_dvd (hc p (by simp)) h1 h2, h3⟩
theorem primes_pw : adPrimes.Pairwise (fun p q => Nat.Coprime p q) := by decide
theorem pow_pw {f : Nat → Nat} (hf : ∀ p ∈ adPrimes, IsPow p (f p)) : adPrimes.Pairwise (fun p q => Nat.Coprime (f p) (f q)) := by
  refine List.Pairwise.imp_of_mem (fun {p q} hp hq h => ?_) primes_pw
  obtain ⟨a, ha⟩ := hf p hp
  obtain ⟨b, hb⟩ := hf q hq
  rw [ha, hb]
  exact Nat.Coprime.pow a b h
theorem prime_two {p : Nat} (hp : p ∈ adPrimes) : 2 ≤ p := by
  have : ∀ p ∈ adPrimes, 2 ≤ p := by decide
  exact this p hp
/-- A round, as the program takes it. -/
def roundG (n k : Nat) : Nat := n / Nat.gcd n k * k
def roundP (ks : List Nat) : Nat := ks.foldl roundG 1
/-- A round, as the document takes it. -/
def roundR (ks : List Nat) : Nat := prodF (fun p => most p ks) adPrimes 1
theorem roundG_lcm (n k : Nat) : roundG n k = Nat.lcm n k := by
  unfold roundG
  rw [Nat.lcm_eq_mul_div, Nat.mul_comm n k, Nat.mul_div_assoc _ (Nat.gcd_dvd_left n k), Nat.mul_comm]
theorem roundP_dvd (M : Nat) : ∀ (ks : List Nat) (n : Nat), ks.foldl roundG n ∣ M ↔ n ∣ M ∧ ∀ k ∈ ks, k ∣ M
  | [], n => by simp
  | k :: ks, n => by
    rw [List.foldl_cons, roundP_dvd M ks, roundG_lcm, Nat.lcm_dvd_iff]
    simp only [List.mem_cons, forall_eq_or_imp, and_assoc]
theorem parts_of : ∀ k, k < 31 → 1 ≤ k → prodF (fun p => ppart p k) adPrimes 1 = k := by decide
theorem dvd_parts {k M : Nat} (h1 : 1 ≤ k) (h2 : k ≤ 30) : k ∣ M ↔ ∀ p ∈ adPrimes, ppart p k ∣ M := by
  have := prodF_dvd (fun p => ppart p k) M adPrimes 1 (fun p _ => Nat.coprime_one_left _) (pow_pw fun p _ => part_pow p 6 k)
  rw [parts_of k (by omega) h1] at this
  simpa using this
def Periods (ks : List Nat) : Prop := ∀ k ∈ ks, 1 ≤ k ∧ k ≤ 30
theorem roundR_dvd (ks : List Nat) (M : Nat) (h : Periods ks) : roundR ks ∣ M ↔ ∀ k ∈ ks, k ∣ M := by
  unfold roundR
  rw [prodF_dvd _ M adPrimes 1 (fun p _ => Nat.coprime_one_left _) (pow_pw fun p hp => most_pow p (prime_two hp) ks)]
  constructor
  · rintro ⟨_, h2⟩ k hk
    exact (dvd_parts (h k hk).1 (h k hk).2).2 fun p hp => (most_dvd p (prime_two hp) ks M).1 (h2 p hp) k hk
  · intro h2
    exact ⟨Nat.one_dvd _, fun p hp => (most_dvd p (prime_two hp) ks M).2 fun k hk => (dvd_parts (h k hk).1 (h k hk).2).1 (h2 k hk) p hp⟩
theorem round_eq (ks : List Nat) (h : Periods ks) : roundP ks = roundR ks := by
  have h1 : ∀ M, roundP ks ∣ M ↔ ∀ k ∈ ks, k ∣ M := fun M => by simpa [roundP] using roundP_dvd M ks 1
  exact Nat.dvd_antisymm ((h1 _).2 ((roundR_dvd ks _ h).1 (Nat.dvd_refl _))) ((roundR_dvd ks _ h).2 ((h1 _).1 (Nat.dvd_refl _)))
def bigRound : Nat := 2329089562800
theorem all_dvd : ∀ k, k < 31 → 1 ≤ k → k ∣ bigRound := by decide
theorem roundF_le (ks : List Nat) (n : Nat) (h : Periods ks) (hn : n ∣ bigRound) : ks.foldl roundG n ∣ bigRound := (roundP_dvd _ ks n).2 ⟨hn, fun k hk => all_dvd k (by have := h k hk; omega) (h k hk).1⟩
theorem dvd_big {n : Nat} (h : n ∣ bigRound) : 1 ≤ n ∧ n ≤ 2329089562800 := ⟨Nat.pos_of_dvd_of_pos h (by decide), Nat.le_of_dvd (by decide) h⟩
theorem round_pos (ks : List Nat) (h : Periods ks) : roundP ks ∣ bigRound := roundF_le ks 1 h (by decide)
theorem dvd_round (ks : List Nat) {k : Nat} (hk : k ∈ ks) : k ∣ roundP ks := ((roundP_dvd (roundP ks) ks 1).1 (Nat.dvd_refl _)).2 k hk
/-- The fraction is brought to lowest terms, prime by prime. -/
def red (p : Nat) : Nat → Nat × Nat → Nat × Nat
  | 0, x => x
  | f + 1, x => if 0 < x.1 ∧ x.1 % p = 0 ∧ x.2 % p = 0 then red p f (x.1 / p, x.2 / p) else x
def Frac (n r : Nat) (x : Nat × Nat) : Prop := 0 < x.1 ∧ ∃ d, 0 < d ∧ n = x.1 * d ∧ r = x.2 * d
theorem red_frac {n r p : Nat} (hp : 2 ≤ p) : ∀ (f : Nat) (x : Nat × Nat), Frac n r x → x.1 ≤ f → Frac n r (red p f x) ∧ ¬ (p ∣ (red p f x).1 ∧ p ∣ (red p f x).2) ∧ (∀ q, ¬ (q ∣ x.1 ∧ q ∣ x.2) → ¬ (q ∣ (red p f x).1 ∧ q ∣ (red p f x).2))
  | 0, x, h, hf => by have := h.1; omega
  | f + 1, x, h, hf => by
    unfold red
    split
    · rename_i hc
      obtain ⟨h0, d, hd, h1, h2⟩ := h
      have e1 : x.1 = x.1 / p * p := (Nat.div_mul_cancel (Nat.dvd_of_mod_eq_zero hc.2.1)).symm
      have e2 : x.2 = x.2 / p * p := (Nat.div_mul_cancel (Nat.dvd_of_mod_eq_zero hc.2.2)).symm
      have hlt : x.1 / p < x.1 := Nat.div_lt_self h0 (by omega)
      have hpos : 0 < x.1 / p := Nat.div_pos (Nat.le_of_dvd h0 (Nat.dvd_of_mod_eq_zero hc.2.1)) (by omega)
      obtain ⟨a, b, c⟩ := red_frac (n := n) (r := r) hp f (x.1 / p, x.2 / p) ⟨hpos, p * d, Nat.mul_pos (by omega) hd, by rw [h1, ← Nat.mul_assoc, ← e1], by rw [h2, ← Nat.mul_assoc, ← e2]⟩ (by show x.1 / p ≤ f; omega)
      refine ⟨a, b, fun q hq => c q fun hh => hq ⟨?_, ?_⟩⟩
      · rw [e1]; exact Nat.dvd_trans hh.1 (Nat.dvd_mul_right _ _)
      · rw [e2]; exact Nat.dvd_trans hh.2 (Nat.dvd_mul_right _ _)
    · rename_i hc
      refine ⟨h, fun hh => hc ⟨h.1, Nat.mod_eq_zero_of_dvd hh.1, Nat.mod_eq_zero_of_dvd hh.2⟩, fun q hq => hq⟩
theorem red_more (p : Nat) (hp : 2 ≤ p) : ∀ (f g : Nat) (x : Nat × Nat), x.1 ≤ f → x.1 ≤ g → red p f x = red p g x
  | 0, 0, x, _, _ => rfl
  | 0, g + 1, x, hf, _ => by unfold red; rw [if_neg (by omega)]
  | f + 1, 0, x, _, hg => by unfold red; rw [if_neg (by omega)]
  | f + 1, g + 1, x, hf, hg => by
    unfold red
    split
    · rename_i hc
      have hlt : x.1 / p < x.1 := Nat.div_lt_self hc.1 (by omega)
      exact red_more p hp f g _ (by show x.1 / p ≤ f; omega) (by show x.1 / p ≤ g; omega)
    · rfl
def redP (p : Nat) (x : Nat × Nat) : Nat × Nat := red p x.1 x
theorem redP_step {p : Nat} (hp : 2 ≤ p) {x : Nat × Nat} (h : 0 < x.1 ∧ x.1 % p = 0 ∧ x.2 % p = 0) : redP p x = redP p (x.1 / p, x.2 / p) := by
  have hlt : x.1 / p < x.1 := Nat.div_lt_self h.1 (by omega)
  unfold redP
  obtain ⟨f, hf⟩ : ∃ f, x.1 = f + 1 := ⟨x.1 - 1, by omega⟩
  have : red p x.1 x = red p (f + 1) x := by rw [hf]
  rw [this, red, if_pos h]
  exact red_more p hp _ _ _ (by show x.1 / p ≤ f; omega) (Nat.le_refl _)
theorem redP_stop {p : Nat} {x : Nat × Nat} (h : ¬ (0 < x.1 ∧ x.1 % p = 0 ∧ x.2 % p = 0)) : redP p x = x := by
  unfold redP
  cases x.1 with
  | zero => rfl
  | succ f => rw [red, if_neg h]
def reds (ps : List Nat) (x : Nat × Nat) : Nat × Nat := ps.foldl (fun x p => redP p x) x
theorem reds_frac {n r : Nat} : ∀ (ps : List Nat) (x : Nat × Nat), (∀ p ∈ ps, 2 ≤ p) → Frac n r x → Frac n r (reds ps x) ∧ (∀ p ∈ ps, ¬ (p ∣ (reds ps x).1 ∧ p ∣ (reds ps x).2)) ∧ (∀ q, ¬ (q ∣ x.1 ∧ q ∣ x.2) → ¬ (q ∣ (reds ps x).1 ∧ q ∣ (reds ps x).2))
  | [], x, _, h => ⟨h, fun p hp => by simp at hp, fun q hq => hq⟩
  | p :: ps, x, h2, h => by
    obtain ⟨a, b, c⟩ := red_frac (n := n) (r := r) (h2 p (by simp)) x.1 x h (Nat.le_refl _)
    obtain ⟨a', b', c'⟩ := reds_frac (n := n) (r := r) ps (redP p x) (fun q hq => h2 q (by simp [hq])) a
    refine ⟨a', fun q hq => ?_, fun q hq => c' q (c q hq)⟩
    rcases List.mem_cons.1 hq with rfl | hq
    · exact c' _ b
    · exact b' q hq
theorem prime_cop {p g : Nat} (hp : p ∈ adPrimes) (h : ¬ p ∣ g) : Nat.Coprime g p := by
  have h1 : ∀ p ∈ adPrimes, ∀ d, d < 30 → d ∣ p → d = 1 ∨ d = p := by decide
  have h2 : ∀ p ∈ adPrimes, p < 30 := by decide
  have h3 : ∀ p ∈ adPrimes, 0 < p := by decide
  have hd := Nat.gcd_dvd_right g p
  have hlt : Nat.gcd g p < 30 := Nat.lt_of_le_of_lt (Nat.le_of_dvd (h3 p hp) hd) (h2 p hp)
  rcases h1 p hp _ hlt hd with e | e
  · exact e
  · exact absurd (e ▸ Nat.gcd_dvd_left g p) h
theorem prodF_cop {f : Nat → Nat} {g : Nat} : ∀ (ps : List Nat) (n : Nat), Nat.Coprime g n → (∀ p ∈ ps, Nat.Coprime g (f p)) → Nat.Coprime g (prodF f ps n)
  | [], n, hn, _ => hn
  | p :: ps, n, hn, h => prodF_cop ps (n * f p) (Nat.Coprime.mul_right hn (h p (by simp))) (fun q hq => h q (by simp [hq]))
theorem share_eq (ks : List Nat) (h : Periods ks) (n : Nat) (hn : 0 < n) : reds adPrimes (n, roundP ks) = (n / Nat.gcd n (roundP ks), roundP ks / Nat.gcd n (roundP ks)) := by
  obtain ⟨⟨h0, d, hd, h1, h2⟩, h3, _⟩ := reds_frac (n := n) (r := roundP ks) adPrimes (n, roundP ks) (fun p hp => prime_two hp) ⟨hn, 1, by omega, by simp, by simp⟩
  generalize reds adPrimes (n, roundP ks) = x at *
  have hcop : Nat.gcd x.1 x.2 = 1 := by
    have hc : Nat.Coprime (Nat.gcd x.1 x.2) (roundP ks) := by
      rw [round_eq ks h]
      refine prodF_cop adPrimes 1 (Nat.coprime_one_right _) fun p hp => ?_
      obtain ⟨e, he⟩ := most_pow p (prime_two hp) ks
      rw [he]
      exact Nat.Coprime.pow_right e (prime_cop hp fun hh => h3 p hp ⟨Nat.dvd_trans hh (Nat.gcd_dvd_left _ _), Nat.dvd_trans hh (Nat.gcd_dvd_right _ _)⟩)
    exact Nat.Coprime.eq_one_of_dvd hc (Nat.dvd_trans (Nat.gcd_dvd_right _ _) (by rw [h2]; exact Nat.dvd_mul_right _ _))
  have hg : Nat.gcd n (roundP ks) = d := by rw [h1, h2, Nat.gcd_mul_right, hcop, Nat.one_mul]
  rw [hg]
  refine Prod.ext ?_ ?_
  · show x.1 = n / d
    rw [h1, Nat.mul_div_cancel _ hd]
  · show x.2 = roundP ks / d
    rw [h2, Nat.mul_div_cancel _ hd]
end Go.Proofs.Ytjcbnanajelpjaa
