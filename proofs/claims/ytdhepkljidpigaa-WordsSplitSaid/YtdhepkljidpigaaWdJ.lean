/- Words, plain: one step of reading a word, the whole of it, and the same read in a tail of the line. -/
import Derived.Test.YtdhepkljidpigaaWdI
namespace Go.Proofs.Ytdhepkljidpigaa
open Go.RowKit
set_option maxHeartbeats 400000
set_option linter.unusedVariables false
set_option linter.unusedSimpArgs false
theorem indexByte_spec (c : UInt8) : ∀ l : List UInt8, Lib.indexByte l c = -1 ∨ ∃ i : Nat, Lib.indexByte l c = i ∧ i < l.length
  | [] => .inl rfl
  | b :: l => by
    unfold Lib.indexByte
    split
    · exact .inr ⟨0, rfl, by simp⟩
    · rcases indexByte_spec c l with h | ⟨i, h, hi⟩
      · left; simp [h]
      · right
        have : ¬ ((i : Int) == -1) = true := by simp
        refine ⟨i + 1, ?_, by simpa using hi⟩
        rw [h, if_neg this]
        rfl
/-- Where the single quote stands that ends the one at place k; counted from behind it. -/
def qi (s : ByteArray) (k : Nat) : Int := Lib.indexByte (s.extract (k + 1) s.size).data.toList 39
theorem qi_spec (s : ByteArray) (k : Nat) : qi s k = -1 ∨ ∃ i : Nat, qi s k = i ∧ k + 1 + i < s.size := by
  rcases indexByte_spec 39 (s.extract (k + 1) s.size).data.toList with h | ⟨i, h, hi⟩
  · exact .inl h
  · refine .inr ⟨i, h, ?_⟩
    have : (s.extract (k + 1) s.size).data.toList.length = s.size - (k + 1) := by
      rw [Array.length_toList]; exact cut_size s (k + 1)
    omega
def escB (c : Nat) : Bool := c == 34 || c == 92 || c == 36
/-- Reading a word: where, behind which double quote, and its parts so far. -/
structure WSt where
  k : Nat
  op : Option Nat
  ps : List Pt
abbrev WRes := Except Nat (List Pt × Nat)
def stp (s : ByteArray) (st : WSt) : WRes ⊕ WSt :=
  if s.size ≤ st.k then .inl (match st.op with | none => .ok (st.ps, st.k) | some b => .error b)
  else match st.op with
  | some b =>
    if bt s st.k = 34 then .inr ⟨st.k + 1, none, if st.k = b + 1 then addP st.ps ByteArray.empty true else st.ps⟩
    else if bt s st.k = 36 then .inr ⟨varK s st.k, some b, varP s st.k st.ps true⟩
    else if bt s st.k = 92 ∧ st.k + 1 < s.size ∧ escB (bt s (st.k + 1)) = true then .inr ⟨st.k + 2, some b, addP st.ps (s.extract (st.k + 1) (st.k + 2)) true⟩
    else .inr ⟨st.k + 1, some b, addP st.ps (s.extract st.k (st.k + 1)) true⟩
  | none =>
    if bt s st.k = 32 ∨ (opS (s.extract st.k s.size)).size ≠ 0 then .inl (.ok (st.ps, st.k))
    else if bt s st.k = 39 then (if qi s st.k < 0 then .inl (.error st.k) else .inr ⟨st.k + 2 + (qi s st.k).toNat, none, addP st.ps (s.extract (st.k + 1) (st.k + 1 + (qi s st.k).toNat)) true⟩)
    else if bt s st.k = 34 then .inr ⟨st.k + 1, some st.k, st.ps⟩
    else if bt s st.k = 36 then .inr ⟨varK s st.k, none, varP s st.k st.ps false⟩
    else if bt s st.k = 92 then (if st.k + 1 = s.size then .inl (.error st.k) else .inr ⟨st.k + 2, none, addP st.ps (s.extract (st.k + 1) (st.k + 2)) true⟩)
    else .inr ⟨st.k + 1, none, addP st.ps (s.extract st.k (st.k + 1)) false⟩
def wd (s : ByteArray) (st : WSt) : WRes :=
  match stp s st with
  | .inl r => r
  | .inr st' => if h : s.size - st'.k < s.size - st.k then wd s st' else .error 0
termination_by s.size - st.k
theorem wd_inl {s : ByteArray} {st : WSt} {r : WRes} (h : stp s st = .inl r) : wd s st = r := by
  rw [wd, h]
theorem wd_inr {s : ByteArray} {st st' : WSt} (h : stp s st = .inr st') (h1 : st.k < s.size) (h2 : st.k < st'.k) : wd s st = wd s st' := by
  rw [wd, h]
  dsimp only
  rw [dif_pos (by omega)]
theorem varK_le (s : ByteArray) (k : Nat) (h : k < s.size) : k < varK s k ∧ varK s k ≤ s.size := by
  unfold varK
  have := varN_le (s.extract (k + 1) s.size)
  rw [cut_size] at this
  omega
/-! the same in a tail -/
def shR (a : Nat) : WRes → WRes
  | .ok (ps, n) => .ok (ps, a + n)
  | .error b => .error (a + b)
def shS (a : Nat) (st : WSt) : WSt := ⟨a + st.k, st.op.map (a + ·), st.ps⟩
theorem tail_tail (s : ByteArray) (a k : Nat) (ha : a ≤ s.size) : (s.extract a s.size).extract k (s.extract a s.size).size = s.extract (a + k) s.size := by
  rw [cut_size, cut_cut s a k (s.size - a) (by omega), show a + (s.size - a) = s.size by omega]
theorem cut_tail (s : ByteArray) (a i j : Nat) (h : j ≤ s.size - a) (ha : a ≤ s.size) : (s.extract a s.size).extract i j = s.extract (a + i) (a + j) := cut_cut s a i j (by omega)
theorem qi_tail (s : ByteArray) (a k : Nat) (ha : a ≤ s.size) : qi (s.extract a s.size) k = qi s (a + k) := by
  unfold qi
  rw [tail_tail s a (k + 1) ha, Nat.add_assoc]
theorem varK_tail (s : ByteArray) (a k : Nat) (ha : a ≤ s.size) : a + varK (s.extract a s.size) k = varK s (a + k) := by
  unfold varK
  rw [tail_tail s a (k + 1) ha, ← Nat.add_assoc a k 1]
  omega
theorem varP_tail (s : ByteArray) (a k : Nat) (ps : List Pt) (q : Bool) (ha : a ≤ s.size) (hk : a + k < s.size) : varP (s.extract a s.size) k ps q = varP s (a + k) ps q := by
  unfold varP
  have hn := varN_le (s.extract (a + k + 1) s.size)
  rw [cut_size] at hn
  rw [tail_tail s a (k + 1) ha, ← Nat.add_assoc a k 1]
  rw [cut_tail s a _ _ (by omega) ha]
  rw [show a + (k + 1) = a + k + 1 by omega, show a + (k + 1 + varN (s.extract (a + k + 1) s.size)) = a + k + 1 + varN (s.extract (a + k + 1) s.size) by omega]
def shX (a : Nat) : WRes ⊕ WSt → WRes ⊕ WSt
  | .inl r => .inl (shR a r)
  | .inr st => .inr (shS a st)
theorem stp_tail (s : ByteArray) (a : Nat) (ha : a ≤ s.size) (st : WSt) (hk : a + st.k ≤ s.size) : shX a (stp (s.extract a s.size) st) = stp s (shS a st) := by
  obtain ⟨k, op, ps⟩ := st
  dsimp only at hk
  unfold stp shS
  dsimp only
  rw [cut_size]
  by_cases hz : s.size - a ≤ k
  · rw [if_pos hz, if_pos (show s.size ≤ a + k by omega)]
    cases op <;> rfl
  rw [if_neg hz, if_neg (show ¬ s.size ≤ a + k by omega)]
  have hb : bt (s.extract a s.size) k = bt s (a + k) := bt_cut s a k (by omega)
  rw [hb]
  cases op with
  | some b =>
    simp only [Option.map_some]
    by_cases c1 : bt s (a + k) = 34
    · rw [if_pos c1, if_pos c1]
      simp only [shX, shS, Option.map_none]
      congr 2
      by_cases c : k = b + 1
      · rw [if_pos c, if_pos (show a + k = a + b + 1 by omega)]
      · rw [if_neg c, if_neg (show ¬ a + k = a + b + 1 by omega)]
    rw [if_neg c1, if_neg c1]
    by_cases c2 : bt s (a + k) = 36
    · rw [if_pos c2, if_pos c2]
      simp only [shX, shS, Option.map_some, varK_tail s a k ha, varP_tail s a k ps true ha (by omega)]
    rw [if_neg c2, if_neg c2]
    by_cases c3 : k + 1 < s.size - a
    · rw [bt_cut s a (k + 1) (by omega), ← Nat.add_assoc]
      by_cases c4 : bt s (a + k) = 92 ∧ escB (bt s (a + k + 1)) = true
      · rw [if_pos ⟨c4.1, c3, c4.2⟩, if_pos (show _ ∧ _ ∧ _ from ⟨c4.1, by omega, c4.2⟩)]
        simp only [shX, shS, Option.map_some, cut_tail s a (k + 1) (k + 2) (by omega) ha]
        rfl
      · rw [if_neg (fun h => c4 ⟨h.1, h.2.2⟩), if_neg (fun h => c4 ⟨h.1, h.2.2⟩)]
        simp only [shX, shS, Option.map_some, cut_tail s a k (k + 1) (by omega) ha]
        rfl
    · rw [if_neg (fun h => c3 h.2.1), if_neg (show ¬ (_ ∧ a + k + 1 < s.size ∧ _) from fun h => c3 (by have := h.2.1; omega))]
      simp only [shX, shS, Option.map_some, cut_tail s a k (k + 1) (by omega) ha]
      rfl
  | none =>
    simp only [Option.map_none]
    have ht := tail_tail s a k ha
    rw [cut_size] at ht
    rw [ht, qi_tail s a k ha]
    by_cases c1 : bt s (a + k) = 32 ∨ (opS (s.extract (a + k) s.size)).size ≠ 0
    · rw [if_pos c1, if_pos c1]; rfl
    rw [if_neg c1, if_neg c1]
    by_cases c2 : bt s (a + k) = 39
    · rw [if_pos c2, if_pos c2]
      rcases qi_spec s (a + k) with h | ⟨i, h, hi⟩
      · rw [h]; rfl
      · rw [h, if_neg (show ¬ (i : Int) < 0 by omega), if_neg (show ¬ (i : Int) < 0 by omega)]
        simp only [shX, shS, Option.map_none, Int.toNat_natCast, cut_tail s a (k + 1) (k + 1 + i) (by omega) ha]
        rw [show a + (k + 2 + i) = a + k + 2 + i by omega, show a + (k + 1) = a + k + 1 by omega, show a + (k + 1 + i) = a + k + 1 + i by omega]
    rw [if_neg c2, if_neg c2]
    by_cases c3 : bt s (a + k) = 34
    · rw [if_pos c3, if_pos c3]; rfl
    rw [if_neg c3, if_neg c3]
    by_cases c4 : bt s (a + k) = 36
    · rw [if_pos c4, if_pos c4]
      simp only [shX, shS, Option.map_none, varK_tail s a k ha, varP_tail s a k ps false ha (by omega)]
    rw [if_neg c4, if_neg c4]
    by_cases c5 : bt s (a + k) = 92
    · rw [if_pos c5, if_pos c5]
      by_cases c6 : k + 1 = s.size - a
      · rw [if_pos c6, if_pos (show a + k + 1 = s.size by omega)]; rfl
      · rw [if_neg c6, if_neg (show ¬ a + k + 1 = s.size by omega)]
        simp only [shX, shS, Option.map_none, cut_tail s a (k + 1) (k + 2) (by omega) ha]
        rfl
    rw [if_neg c5, if_neg c5]
    simp only [shX, shS, Option.map_none, cut_tail s a k (k + 1) (by omega) ha]
    rfl
theorem stp_grow {s : ByteArray} {st st' : WSt} (h : stp s st = .inr st') : st.k < s.size ∧ st.k < st'.k ∧ st'.k ≤ s.size := by
  unfold stp at h
  by_cases hz : s.size ≤ st.k
  · rw [if_pos hz] at h; cases h
  rw [if_neg hz] at h
  have hv := varK_le s st.k (by omega)
  refine ⟨by omega, ?_⟩
  split at h
  · repeat' split at h
    all_goals (injection h with h; subst h; dsimp only; omega)
  · split at h
    · cases h
    split at h
    · rcases qi_spec s st.k with e | ⟨i, e, hi⟩
      · rw [e, if_pos (show (-1 : Int) < 0 by omega)] at h; cases h
      · rw [e, if_neg (show ¬ (i : Int) < 0 by omega)] at h
        injection h with h; subst h; dsimp only; omega
    split at h
    · injection h with h; subst h; dsimp only; omega
    split at h
    · injection h with h; subst h; dsimp only; omega
    split at h
    · split at h
      · cases h
      · injection h with h; subst h; dsimp only; omega
    · injection h with h; subst h; dsimp only; omega
theorem wd_tail (s : ByteArray) (a : Nat) (ha : a ≤ s.size) : ∀ (d : Nat) (st : WSt), s.size - a - st.k ≤ d → a + st.k ≤ s.size → shR a (wd (s.extract a s.size) st) = wd s (shS a st) := by
  intro d
  induction d with
  | zero =>
    intro st hd hk
    have h := stp_tail s a ha st hk
    cases e : stp (s.extract a s.size) st with
    | inl r => rw [e] at h; rw [wd_inl e, wd_inl h.symm]
    | inr st' =>
      have := stp_grow e
      rw [cut_size] at this
      omega
  | succ d ih =>
    intro st hd hk
    have h := stp_tail s a ha st hk
    cases e : stp (s.extract a s.size) st with
    | inl r => rw [e] at h; rw [wd_inl e, wd_inl h.symm]
    | inr st' =>
      rw [e] at h
      have g := stp_grow e
      rw [cut_size] at g
      rw [wd_inr e (by rw [cut_size]; exact g.1) g.2.1, wd_inr h.symm (by simp only [shS]; omega) (by simp only [shS]; omega)]
      exact ih st' (by omega) (by omega)
theorem wd_of_tail (s : ByteArray) (a : Nat) (ha : a ≤ s.size) : wd s ⟨a, none, []⟩ = shR a (wd (s.extract a s.size) ⟨0, none, []⟩) :=
  (wd_tail s a ha _ ⟨0, none, []⟩ (Nat.le_refl _) (by simpa using ha)).symm
end Go.Proofs.Ytdhepkljidpigaa
