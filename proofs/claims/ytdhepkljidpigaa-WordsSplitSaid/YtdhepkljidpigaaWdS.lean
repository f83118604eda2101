/- The law ringlaw4.WordsSplit. -/
import Derived.Test.YtdhepkljidpigaaWdQ
import Derived.Test.YtdhepkljidpigaaWdR
namespace Go.Proofs.Ytdhepkljidpigaa
open Go.RowKit
set_option maxHeartbeats 400000
set_option linter.unusedVariables false
set_option linter.unusedSimpArgs false
theorem sp_len (s : ByteArray) : ∀ (d k : Nat) (ts : List Tk), s.size - k ≤ d → ts.length ≤ k → k ≤ s.size → (sp s k ts).1.length ≤ s.size := by
  intro d
  induction d with
  | zero =>
    intro k ts hd hl hk
    rw [sp_end (by omega)]
    dsimp only; omega
  | succ d ih =>
    intro k ts hd hl hk
    by_cases h : k < s.size
    · by_cases h32 : bt s k = 32
      · rw [sp_blank h h32]; exact ih (k + 1) ts (by omega) (by omega) (by omega)
      by_cases h35 : bt s k = 35
      · rw [sp_hash h h35]; dsimp only; omega
      obtain ⟨O, hO⟩ : ∃ O, opS (s.extract k s.size) = O := ⟨_, rfl⟩
      have hOl := opS_le s k hk
      rw [hO] at hOl
      by_cases ho : O.size = 0
      · cases hw : wd s ⟨k, none, []⟩ with
        | error b => rw [sp_bad h h32 h35 hO ho hw]; simp
        | ok p =>
          obtain ⟨ps, k'⟩ := p
          obtain ⟨g1, g2, g3⟩ := sp_word (ts := ts) h h32 h35 hO ho hw
          rw [g3]
          exact ih k' _ (by omega) (by simp; omega) g2
      · rw [sp_sign h h32 h35 hO ho]
        exact ih _ _ (by omega) (by simp; omega) hOl
    · rw [sp_end (by omega)]
      dsimp only; omega
theorem splitS_len (s : ByteArray) : (splitS s).1.length ≤ 200 := by
  unfold splitS
  split
  · simp
  split
  · simp
  · have := sp_len s s.size 0 [] (by omega) (by simp) (by omega)
    omega
set_option maxHeartbeats 2000000 in
set_option maxRecDepth 100000 in
theorem law_wordsSplit (s : ByteArray) (w : World) (hs : s.size ≤ 9223372036854775807) : Calls Try.prog 3 #[.string s] w fun e w' => e = .returned (.bool true) ∧ Below w.heap.size w w' := by
  have HL := Lib.hid (splitS_len s)
  have H1 := Lib.hid (fun W => split_any s W)
  have H2 := Lib.hid (fun W => wordSplit_any s W)
  have H3 := Lib.hid (fun W => name_any s W hs)
  have H4 := Lib.hid (fun W => wordName_any s W hs)
  generalize splitS s = R at *
  generalize nameW (nums s) = N at *
  obtain ⟨toks, k0, e0⟩ := R
  unfold SPost at H1 H2
  unfold Same at H3
  unfold SameB at H4
  go_enter Try.func3, Try.ntmps3
  go_wp2_with fail
  refine (H1.out w).mono ?_
  rintro e w1 ⟨A, n, c, ms, k, er, rfl, hts1, hR1, hf1⟩
  have hb1 := frB_below hf1
  injection hR1 with hT1 hR1
  injection hR1 with hK1 hE1
  subst hT1; subst hK1; subst hE1
  go_wp2_with fail
  refine (H2.out w1).mono ?_
  rintro e w2 ⟨A', n', c', ms', k', er', rfl, hts2, hR2, hf2⟩
  have hb2 := frB_below hf2
  injection hR2 with hT2 hR2
  injection hR2 with hK2 hE2
  subst hK2; subst hE2
  have hts1' := hts1.grow hb2
  have hn : n ≤ 1000 := by
    have h1 := HL.out
    have h2 := hts1.len
    simp only [List.length_map] at h1
    omega
  have hS := Lib.hid (sameTokens_same A A' n c n' c' ms ms' w2 hts1'.tf hts2.tf hT2.symm hn (fun m hm => by
    obtain ⟨_, _, _, h1, h2⟩ := (hts1'.parts m hm).1.shape
    injection ‹Value.slice m.A m.n m.c = _› with _ e1 e2
    have : maxLen ≤ 9223372036854775807 := by decide
    omega))
  have hb12 := Lib.hid (hb1.trans (hb2.mono hb1.size))
  clear hts1 hts2 hts1' hb1 hb2 hf1 hf2 hT2
  unfold SameB at hS
  go_wp2_with fail
  refine hS.out.mono ?_
  rintro e w3 ⟨rfl, hb3⟩
  go_wp2_with fail
  refine (H3.out w3).mono ?_
  rintro e w4 ⟨rfl, rfl⟩
  go_wp2_with fail
  refine (H4.out w4).mono ?_
  rintro e w5 ⟨rfl, hb5⟩
  have hb := Lib.hid (hb12.out.trans ((hb3.trans (hb5.mono hb3.size)).mono hb12.out.size))
  have hNN : (N == N) = true := by simp
  clear hb3 hb5
  go_wp2
  go_ret
  exact ⟨rfl, hb.out⟩
end Go.Proofs.Ytdhepkljidpigaa
