/- Texts in the order of their bytes: a strict total order. -/
import Derived.Test.YtenhcpobncmedaaHpC
namespace Go.Proofs.Ytenhcpobncmedaa
set_option linter.unusedVariables false
set_option linter.unusedSimpArgs false
theorem bl_cons (a b : UInt8) (x y : List UInt8) : Op.bytesLess (a :: x) (b :: y) = true ↔ a.toNat < b.toNat ∨ a.toNat = b.toNat ∧ Op.bytesLess x y = true := by
  simp only [Op.bytesLess, Bool.or_eq_true, Bool.and_eq_true, decide_eq_true_eq, beq_iff_eq, UInt8.lt_iff_toNat_lt, ← UInt8.toNat_inj]
theorem bl_irr : ∀ x : List UInt8, Op.bytesLess x x = false
  | [] => rfl
  | a :: x => by
    rw [Bool.eq_false_iff]
    intro h
    rcases (bl_cons a a x x).1 h with h1 | ⟨_, h1⟩
    · omega
    · rw [bl_irr x] at h1; cases h1
theorem bl_tr : ∀ x y z : List UInt8, Op.bytesLess x y = true → Op.bytesLess y z = true → Op.bytesLess x z = true
  | x, [], z, h, _ => by cases x <;> simp [Op.bytesLess] at h
  | x, b :: y, [], _, h => by simp [Op.bytesLess] at h
  | [], b :: y, c :: z, _, _ => by simp [Op.bytesLess]
  | a :: x, b :: y, c :: z, h1, h2 => by
    rw [bl_cons] at h1 h2 ⊢
    rcases h1 with h1 | ⟨h1, h1'⟩
    · rcases h2 with h2 | ⟨h2, _⟩
      · left; omega
      · left; omega
    · rcases h2 with h2 | ⟨h2, h2'⟩
      · left; omega
      · exact .inr ⟨by omega, bl_tr x y z h1' h2'⟩
theorem bl_tot : ∀ x y : List UInt8, Op.bytesLess x y = false → Op.bytesLess y x = false → x = y
  | [], [], _, _ => rfl
  | [], b :: y, h, _ => by simp [Op.bytesLess] at h
  | a :: x, [], _, h => by simp [Op.bytesLess] at h
  | a :: x, b :: y, h1, h2 => by
    rw [Bool.eq_false_iff] at h1 h2
    have e : a.toNat = b.toNat := by
      have n1 : ¬ a.toNat < b.toNat := fun h => h1 ((bl_cons a b x y).2 (.inl h))
      have n2 : ¬ b.toNat < a.toNat := fun h => h2 ((bl_cons b a y x).2 (.inl h))
      omega
    have m1 : Op.bytesLess x y = false := by
      rw [Bool.eq_false_iff]
      exact fun h => h1 ((bl_cons a b x y).2 (.inr ⟨e, h⟩))
    have m2 : Op.bytesLess y x = false := by
      rw [Bool.eq_false_iff]
      exact fun h => h2 ((bl_cons b a y x).2 (.inr ⟨e.symm, h⟩))
    rw [UInt8.toNat_inj.1 e, bl_tot x y m1 m2]
theorem ba_inj {a b : ByteArray} (h : a.toList = b.toList) : a = b := by
  rw [Lib.toList_data, Lib.toList_data] at h
  have : a.data = b.data := Array.toList_inj.1 h
  cases a; cases b; simp_all
theorem text_ord : SOrd (fun a b : ByteArray => Op.bytesLess a.toList b.toList) :=
  ⟨fun x => bl_irr _, fun x y z => bl_tr _ _ _, fun x y h1 h2 => ba_inj (bl_tot _ _ h1 h2)⟩
end Go.Proofs.Ytenhcpobncmedaa
