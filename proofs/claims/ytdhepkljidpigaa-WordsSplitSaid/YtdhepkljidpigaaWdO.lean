/- Lines, plain: where a byte is wrong; the tokens of a line. -/
import Derived.Test.YtdhepkljidpigaaWdN
import Derived.Lib.DecodeN
import Derived.Shelf.Strings.FuncGrows
namespace Go.Proofs.Ytdhepkljidpigaa
open Go.RowKit
set_option maxHeartbeats 400000
set_option linter.unusedVariables false
set_option linter.unusedSimpArgs false
def chB (c : Nat) : Bool := decide (c < 32) || decide (126 < c)
def fbI : Nat → List Nat → Int
  | _, [] => -1
  | k, c :: cs => if chB c = true then (k : Int) else fbI (k + 1) cs
/-- Where a byte stands that may not. -/
def fb (s : ByteArray) : Int := fbI 0 (nums s)
theorem fbI_end (k : Nat) (xs : List Nat) (h : xs.length ≤ k) : fbI k (xs.drop k) = -1 := by rw [List.drop_eq_nil_of_le h]; rfl
theorem fbI_step {xs : List Nat} {k : Nat} (h : k < xs.length) : fbI k (xs.drop k) = if chB (xs.getD k 0) = true then (k : Int) else fbI (k + 1) (xs.drop (k + 1)) := by
  rw [List.drop_eq_getElem_cons h, fbI]
  simp [List.getD, List.getElem?_eq_getElem h]
theorem fb_spec (s : ByteArray) : fb s = -1 ∨ ∃ i : Nat, fb s = i ∧ i < s.size := by
  have key : ∀ (xs : List Nat) (k : Nat), fbI k xs = -1 ∨ ∃ i : Nat, fbI k xs = i ∧ i < k + xs.length := by
    intro xs
    induction xs with
    | nil => intro k; exact .inl rfl
    | cons c cs ih =>
      intro k
      unfold fbI
      split
      · exact .inr ⟨k, rfl, by simp⟩
      · rcases ih (k + 1) with h | ⟨i, h, hi⟩
        · exact .inl h
        · exact .inr ⟨i, h, by simp at hi ⊢; omega⟩
  have := key (nums s) 0
  rw [nums_len, Nat.zero_add] at this
  exact this
theorem get_bt (s : ByteArray) (i : Nat) (h : i < s.size) : (s.get! i).toNat = bt s i := by
  unfold bt
  rw [nums_at s i h]
  have e : s.get! i = s[i] := by
    unfold ByteArray.get!
    exact getElem!_pos s.data i h
  rw [e]
theorem dec_low {s : ByteArray} {i : Nat} (h : i < s.size) (hc : bt s i < 128) : Utf8.decode s i = (bt s i, 1) := by
  rw [Lib.decode_at, get_bt s i h]
  unfold Lib.decodeN
  rw [if_pos hc]
theorem dec_high {s : ByteArray} {i : Nat} (h : i < s.size) (hc : ¬ bt s i < 128) : 126 < (Utf8.decode s i).1 := by
  rw [Lib.decode_at, get_bt s i h]
  unfold Lib.decodeN
  rw [if_neg hc]
  repeat' split
  all_goals (dsimp only; omega)
theorem idx_fb (s : ByteArray) : ∀ (f k : Nat), s.size ≤ k + f → Lib.idxFuncFrom chB true s f k = fbI k ((nums s).drop k)
  | 0, k, h => by
    rw [fbI_end k _ (by rw [nums_len]; omega)]
    rfl
  | f + 1, k, h => by
    unfold Lib.idxFuncFrom
    by_cases hk : k < s.size
    · rw [if_pos hk, fbI_step (by rw [nums_len]; exact hk)]
      have e : (nums s).getD k 0 = bt s k := rfl
      rw [e]
      by_cases hc : bt s k < 128
      · rw [dec_low hk hc]
        dsimp only
        rw [idx_fb s f (k + 1) (by omega)]
      · have h1 : chB (Utf8.decode s k).1 = true := by
          have := dec_high hk hc
          simp [chB]; omega
        have h2 : chB (bt s k) = true := by simp [chB]; omega
        rw [if_pos h1, if_pos h2]
    · rw [if_neg hk, fbI_end k _ (by rw [nums_len]; omega)]
theorem idxFunc_fb (s : ByteArray) : Lib.idxFunc chB true s = fb s := by
  unfold Lib.idxFunc fb
  have := idx_fb s s.size 0 (by omega)
  rwa [List.drop_zero] at this
/-! the word ends behind its beginning -/
theorem wd_ge (s : ByteArray) : ∀ (d : Nat) (st : WSt) (ps : List Pt) (k : Nat), s.size - st.k ≤ d → wd s st = .ok (ps, k) → st.k ≤ k ∧ (st.k ≤ s.size → k ≤ s.size) := by
  have done : ∀ (st : WSt) (r : WRes) (ps : List Pt) (k : Nat), stp s st = .inl r → r = .ok (ps, k) → st.k = k := by
    intro st r ps k h hr
    subst hr
    unfold stp at h
    split at h
    · split at h
      · injection h with h; injection h with h; injection h
      · injection h with h; cases h
    split at h
    · repeat' split at h
      all_goals cases h
    · repeat' split at h
      all_goals first | (injection h with h; injection h with h; injection h) | (injection h with h; cases h) | cases h
  intro d
  induction d with
  | zero =>
    intro st ps k hd h
    cases e : stp s st with
    | inl r => rw [wd_inl e] at h; have := done st r ps k e h; omega
    | inr st' => have := stp_grow e; omega
  | succ d ih =>
    intro st ps k hd h
    cases e : stp s st with
    | inl r => rw [wd_inl e] at h; have := done st r ps k e h; omega
    | inr st' =>
      have g := stp_grow e
      rw [wd_inr e g.1 g.2.1] at h
      have := ih st' ps k (by omega) h
      omega
theorem wd_gt {s : ByteArray} {j k : Nat} {ps : List Pt} (h : j < s.size) (ho : ¬ (bt s j = 32 ∨ (opS (s.extract j s.size)).size ≠ 0)) (hr : wd s ⟨j, none, []⟩ = .ok (ps, k)) : j < k ∧ k ≤ s.size := by
  cases e : stp s ⟨j, none, []⟩ with
  | inl r =>
    rw [wd_inl e] at hr
    subst hr
    unfold stp at e
    dsimp only at e
    rw [if_neg (show ¬ s.size ≤ j by omega), if_neg ho] at e
    repeat' split at e
    all_goals first | cases e | (injection e with e; cases e)
  | inr st' =>
    have g := stp_grow e
    rw [wd_inr e g.1 g.2.1] at hr
    have := wd_ge s _ st' ps k (Nat.le_refl _) hr
    dsimp only at g
    omega
/-! the tokens of a line -/
structure Tk where
  op : ByteArray
  ps : List Pt
  k : Nat
abbrev SRes := List Tk × Int × Int
def sp (s : ByteArray) (k : Nat) (ts : List Tk) : SRes :=
  if s.size ≤ k then (ts, 0, 0)
  else if bt s k = 32 then sp s (k + 1) ts
  else if bt s k = 35 then (ts, 0, 0)
  else if (opS (s.extract k s.size)).size ≠ 0 then sp s (k + (opS (s.extract k s.size)).size) (ts ++ [⟨opS (s.extract k s.size), [], k⟩])
  else match wd s ⟨k, none, []⟩ with
    | .error b => ([], (b : Int), 22)
    | .ok (ps, k') => if k < k' then sp s k' (ts ++ [⟨ByteArray.empty, ps, k⟩]) else (ts, 0, 0)
termination_by s.size - k
decreasing_by all_goals omega
section
variable {s : ByteArray} {k : Nat} {ts : List Tk}
theorem sp_end (h : s.size ≤ k) : sp s k ts = (ts, 0, 0) := by rw [sp, if_pos h]
theorem sp_blank (h : k < s.size) (hc : bt s k = 32) : sp s k ts = sp s (k + 1) ts := by rw [sp, if_neg (by omega), if_pos hc]
theorem sp_hash (h : k < s.size) (hc : bt s k = 35) : sp s k ts = (ts, 0, 0) := by rw [sp, if_neg (by omega), if_neg (by omega), if_pos hc]
theorem sp_sign (h : k < s.size) (h1 : bt s k ≠ 32) (h2 : bt s k ≠ 35) {O : ByteArray} (hO : opS (s.extract k s.size) = O) (ho : O.size ≠ 0) : sp s k ts = sp s (k + O.size) (ts ++ [⟨O, [], k⟩]) := by
  rw [sp, if_neg (by omega), if_neg h1, if_neg h2, hO, if_pos ho]
theorem sp_bad (h : k < s.size) (h1 : bt s k ≠ 32) (h2 : bt s k ≠ 35) {O : ByteArray} (hO : opS (s.extract k s.size) = O) (ho : O.size = 0) {b : Nat} (hw : wd s ⟨k, none, []⟩ = .error b) : sp s k ts = ([], (b : Int), 22) := by
  rw [sp, if_neg (by omega), if_neg h1, if_neg h2, hO, if_neg (by omega), hw]
theorem sp_word (h : k < s.size) (h1 : bt s k ≠ 32) (h2 : bt s k ≠ 35) {O : ByteArray} (hO : opS (s.extract k s.size) = O) (ho : O.size = 0) {ps : List Pt} {k' : Nat} (hw : wd s ⟨k, none, []⟩ = .ok (ps, k')) :
    k < k' ∧ k' ≤ s.size ∧ sp s k ts = sp s k' (ts ++ [⟨ByteArray.empty, ps, k⟩]) := by
  have g := wd_gt h (by rw [hO]; omega) hw
  refine ⟨g.1, g.2, ?_⟩
  rw [sp, if_neg (by omega), if_neg h1, if_neg h2, hO, if_neg (by omega), hw]
  dsimp only
  rw [if_pos g.1]
end
theorem opS_le (s : ByteArray) (k : Nat) (hk : k ≤ s.size) : k + (opS (s.extract k s.size)).size ≤ s.size := by
  have h := opS_sgn (s.extract k s.size)
  have hl : (s.extract k s.size).data.toList.length = s.size - k := by rw [Array.length_toList]; exact cut_size s k
  have hz : (opS (s.extract k s.size)).data.toList.length = (opS (s.extract k s.size)).size := by simp
  have : (sgn (s.extract k s.size).data.toList).length ≤ (s.extract k s.size).data.toList.length := by
    generalize (s.extract k s.size).data.toList = l
    unfold sgn
    repeat' split
    all_goals simp
  rw [← h] at this
  omega
/-- What a line is taken apart into. -/
def splitS (s : ByteArray) : SRes := if 200 < s.size then ([], 0, 2) else if 0 ≤ fb s then ([], fb s, 22) else sp s 0 []
end Go.Proofs.Ytdhepkljidpigaa
