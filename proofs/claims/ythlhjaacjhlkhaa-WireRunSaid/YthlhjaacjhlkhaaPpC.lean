/- Contracts of the pipes' find, end, Index, Make, More, Less, Tell. -/
import Derived.Test.YthlhjaacjhlkhaaPpB
namespace Go.Proofs.Ythlhjaacjhlkhaa
open Go.RowKit
set_option maxHeartbeats 400000
set_option linter.unusedVariables false
set_option linter.unusedSimpArgs false
theorem ptrA_some {F : Fs} {b : Nat → Nat} {i : Nat} {p : Pp} (h : F i = some p) : ptrA F b i = .pointer (some ⟨b i, 0, none⟩) := by unfold ptrA; rw [h]
theorem ptrA_none {F : Fs} {b : Nat → Nat} {i : Nat} (h : F i = none) : ptrA F b i = .pointer none := by unfold ptrA; rw [h]
theorem eq_nil (w : World) (a : Addr) : (binOp .eql 110 (.pointer none) (.pointer (some a))).run Try.prog w = .ok (.bool false) w := by kernel_rfl
theorem errE_zero {F : Fs} {id e : Int} (h : errE F id e = 0) : ∃ (i : Nat) (p : Pp), i < 16 ∧ id = (i : Int) + 1 ∧ F i = some p ∧ (e = 0 ∨ e = 1) ∧ p.at_ e ≠ 0 ∧ at1 F id = some p := by
  unfold errE at h
  split at h
  · cases h
  rename_i he
  split at h
  · cases h
  rename_i p hp
  split at h
  · cases h
  rename_i h0
  obtain ⟨i, hi, hid, hF⟩ := at1_some hp
  exact ⟨i, p, hi, hid, hF, by omega, h0, hp⟩
theorem at1_of {F : Fs} {i : Nat} (h : i < 16) : at1 F ((i : Int) + 1) = F i := by
  unfold at1
  rw [if_pos (by omega), show ((i : Int) + 1 - 1).toNat = i by omega]
section
variable {w : World} {B g : Nat} {F : Fs} {b : Nat → Nat} {v : Nat → Value} {i : Nat} {p : Pp}
theorem find_some (h : Re w B g F b v) (hi : i < 16) (hp : F i = some p) : Calls Try.prog 91 #[.pointer (some ⟨g, 0, none⟩), .int .i64 ((i : Int) + 1)] w fun e w' => e = .returned (.pointer (some ⟨b i, 0, none⟩)) ∧ w = w' := by
  have hc := (h.blk.cell i).trans (cellsA_at F b hi)
  rw [ptrA_some hp] at hc
  have hlt := h.blk.lt
  have hd : decide ((i : Int) + 1 < 1) = false := by simp; omega
  have hd2 : decide ((16 : Int) < (i : Int) + 1) = false := by simp; omega
  have hi' : (i : Int) < 16 := by omega
  clear h hp
  go_enter Try.func91, Try.ntmps91
  go_wp2
  go_ret
  exact ⟨rfl, rfl⟩
theorem find_none (h : Re w B g F b v) {id : Int} (ha : at1 F id = none) : Calls Try.prog 91 #[.pointer (some ⟨g, 0, none⟩), .int .i64 id] w fun e w' => e = .returned (.pointer none) ∧ w = w' := by
  have hlt := h.blk.lt
  by_cases h1 : id < 1
  · have hd : decide (id < 1) = true := by simpa using h1
    clear h ha
    go_enter Try.func91, Try.ntmps91
    go_wp2
    go_ret
    exact ⟨rfl, rfl⟩
  · have hd : decide (id < 1) = false := by simpa using h1
    by_cases h2 : 16 < id
    · have hd2 : decide ((16 : Int) < id) = true := by simpa using h2
      clear h ha
      go_enter Try.func91, Try.ntmps91
      go_wp2
      go_ret
      exact ⟨rfl, rfl⟩
    · have hd2 : decide ((16 : Int) < id) = false := by simpa using h2
      obtain ⟨i, rfl⟩ : ∃ i : Nat, id = (i : Int) + 1 := ⟨(id - 1).toNat, by omega⟩
      have hi : i < 16 := by omega
      rw [at1_of hi] at ha
      have hc := (h.blk.cell i).trans (cellsA_at F b hi)
      rw [ptrA_none ha] at hc
      have hi' : (i : Int) < 16 := by omega
      clear h ha
      go_enter Try.func91, Try.ntmps91
      go_wp2
      go_ret
      exact ⟨rfl, rfl⟩
theorem end_ok (h : Re w B g F b v) (hi : i < 16) (hp : F i = some p) {e : Int} (he : e = 0 ∨ e = 1) (h0 : p.at_ e ≠ 0) :
    Calls Try.prog 88 #[.pointer (some ⟨g, 0, none⟩), .int .i64 ((i : Int) + 1), .int .i64 e] w fun x w' => x = .returned (.tuple #[.pointer (some ⟨b i, 0, none⟩), .int .i64 0]) ∧ w = w' := by
  have HF := Lib.hid (find_some h hi hp)
  have c0 := (h.ob i p hi hp).1.cell 0
  have c1 := (h.ob i p hi hp).1.cell 1
  have hl := (h.ob i p hi hp).1.lt
  dsimp at c0 c1
  clear h hp
  go_enter Try.func88, Try.ntmps88
  rcases he with rfl | rfl
  · have hd : (p.r == 0) = false := by simpa [Pp.at_] using h0
    clear h0
    go_wp2_with fail
    refine HF.out.mono ?_
    rintro x w' ⟨rfl, rfl⟩
    go_wp2
    go_ret2
    exact ⟨rfl, rfl⟩
  · have hd : (p.w == 0) = false := by simpa [Pp.at_] using h0
    clear h0
    go_wp2_with fail
    refine HF.out.mono ?_
    rintro x w' ⟨rfl, rfl⟩
    go_wp2
    go_ret2
    exact ⟨rfl, rfl⟩
theorem end_err (h : Re w B g F b v) {id e x : Int} (hx : errE F id e = x) (h0 : x ≠ 0) :
    Calls Try.prog 88 #[.pointer (some ⟨g, 0, none⟩), .int .i64 id, .int .i64 e] w fun y w' => y = .returned (.tuple #[.pointer none, .int .i64 x]) ∧ w = w' := by
  unfold errE at hx
  by_cases he : e ≠ 0 ∧ e ≠ 1
  · rw [if_pos he] at hx
    subst hx
    have hd : (e != 0) = true := by simpa using he.1
    have hd1 : (e != 1) = true := by simpa using he.2
    clear h he
    go_enter Try.func88, Try.ntmps88
    go_wp2
    go_ret2
    exact ⟨rfl, rfl⟩
  · rw [if_neg he] at hx
    have he' : e = 0 ∨ e = 1 := by omega
    cases ha : at1 F id with
    | none =>
      rw [ha] at hx
      dsimp only at hx
      subst hx
      have HF := Lib.hid (find_none h ha)
      clear h ha
      go_enter Try.func88, Try.ntmps88
      rcases he' with rfl | rfl
      all_goals
        go_wp2_with fail
        refine HF.out.mono ?_
        rintro x w' ⟨rfl, rfl⟩
        go_wp2
        go_ret2
        exact ⟨rfl, rfl⟩
    | some p =>
      rw [ha] at hx
      dsimp only at hx
      obtain ⟨i, hi, rfl, hp⟩ := at1_some ha
      have hz : p.at_ e = 0 := by
        by_cases hz : p.at_ e = 0
        · exact hz
        · rw [if_neg hz] at hx; exact absurd hx.symm h0
      rw [if_pos hz] at hx
      subst hx
      have HF := Lib.hid (find_some h hi hp)
      have c0 := (h.ob i p hi hp).1.cell 0
      have c1 := (h.ob i p hi hp).1.cell 1
      have hl := (h.ob i p hi hp).1.lt
      dsimp at c0 c1
      clear h hp ha he h0
      go_enter Try.func88, Try.ntmps88
      rcases he' with rfl | rfl
      · have hd : p.r = 0 := by simpa [Pp.at_] using hz
        rw [hd] at c0
        clear hz hd
        go_wp2_with fail
        refine HF.out.mono ?_
        rintro x w' ⟨rfl, rfl⟩
        go_wp2
        go_ret2
        exact ⟨rfl, rfl⟩
      · have hd : p.w = 0 := by simpa [Pp.at_] using hz
        rw [hd] at c1
        clear hz hd
        go_wp2_with fail
        refine HF.out.mono ?_
        rintro x w' ⟨rfl, rfl⟩
        go_wp2
        go_ret2
        exact ⟨rfl, rfl⟩
set_option maxRecDepth 100000 in
theorem index_free (h : Re w B g F b v) (hf : freeAt F i) : Calls Try.prog 86 #[.slice (some ⟨g, 0, none⟩) 16 16, .pointer none] w fun e w' => e = .returned (.int .i64 i) ∧ w = w' := by
  obtain ⟨hi, hn, hb⟩ := hf
  have HC := Lib.hid (fun j (hj : j < 16) => (h.blk.cell j).trans (cellsA_at F b hj))
  have HB := Lib.hid hb
  have HN := Lib.hid hn
  have hlt := h.blk.lt
  clear h hb hn
  go_enter Try.func86, Try.ntmps86
  go_wp2_with fail
  go_loop [8] (fun x => ∃ k : Nat, x = .int .i64 k ∧ k ≤ i) (fun x => i - (intOf x).toNat)
  case atStart => exact ⟨0, rfl, by omega⟩
  case round =>
    obtain ⟨k, rfl, hk⟩ := hrel
    have hc := HC.out k (by omega)
    have hk16 : (k : Int) < 16 := by omega
    by_cases hki : k < i
    · obtain ⟨q, hq⟩ : ∃ q, F k = some q := Option.ne_none_iff_exists'.1 (HB.out k hki)
      rw [ptrA_some hq] at hc
      have hrun := eq_nil w ⟨b k, 0, none⟩
      clear hq
      go_wp2
      go_round
      case rel => exact ⟨k + 1, by go_num, by omega⟩
      case measure => simp [intOf]; omega
    · obtain rfl : k = i := by omega
      rw [ptrA_none HN.out] at hc
      go_wp2
      go_ret
      exact ⟨rfl, rfl⟩
set_option maxRecDepth 100000 in
theorem index_full (h : Re w B g F b v) (hf : full F) : Calls Try.prog 86 #[.slice (some ⟨g, 0, none⟩) 16 16, .pointer none] w fun e w' => e = .returned (.int .i64 (-1)) ∧ w = w' := by
  have HC := Lib.hid (fun j (hj : j < 16) => (h.blk.cell j).trans (cellsA_at F b hj))
  have HB := Lib.hid hf
  have hlt := h.blk.lt
  clear h hf
  go_enter Try.func86, Try.ntmps86
  go_wp2_with fail
  go_loop [8] (fun x => ∃ k : Nat, x = .int .i64 k ∧ k ≤ 16) (fun x => 16 - (intOf x).toNat)
  case atStart => exact ⟨0, rfl, by omega⟩
  case round =>
    obtain ⟨k, rfl, hk⟩ := hrel
    by_cases hki : k < 16
    · have hc := HC.out k (by omega)
      have hk16 : (k : Int) < 16 := by omega
      obtain ⟨q, hq⟩ : ∃ q, F k = some q := Option.ne_none_iff_exists'.1 (HB.out k hki)
      rw [ptrA_some hq] at hc
      have hrun := eq_nil w ⟨b k, 0, none⟩
      clear hq
      go_wp2
      go_round
      case rel => exact ⟨k + 1, by go_num, by omega⟩
      case measure => simp [intOf]; omega
    · obtain rfl : k = 16 := by omega
      go_wp2
      go_ret
      exact ⟨rfl, rfl⟩
/-- 'Make' and 'Made': which number, which error, what is left. -/
def madeE (F : Fs) (x y : Int) (F' : Fs) : Prop := (full F ∧ x = 0 ∧ y = 6 ∧ F' = F) ∨ ∃ i, freeAt F i ∧ x = (i : Int) + 1 ∧ y = 0 ∧ F' = put F i (some ⟨1, 1, []⟩)
theorem make_any (h : Re w B g F b v) (hB : B ≤ w.heap.size) : Calls Try.prog 25 #[.pointer (some ⟨g, 0, none⟩)] w fun e w' => ∃ x y F', e = .returned (.tuple #[.int .i64 x, .int .i64 y]) ∧ madeE F x y F' ∧ RGo w B g F b v F' w' := by
  have hlt := h.blk.lt
  rcases free_or F with hf | ⟨i, hf⟩
  · have HI := Lib.hid (index_full h hf)
    have HP := Lib.hid h.refl
    have HF := Lib.hid hf
    clear h hf
    go_enter Try.func25, Try.ntmps25
    go_wp2_with fail
    refine HI.out.mono ?_
    rintro e w' ⟨rfl, rfl⟩
    go_wp2
    go_ret2
    exact ⟨0, 6, F, rfl, .inl ⟨HF.out, rfl, rfl, rfl⟩, HP.out⟩
  · have HI := Lib.hid (index_free h hf)
    have HP := Lib.hid (h.fill hf.1 hf.2.1 hB)
    have HF := Lib.hid hf
    have hi := hf.1
    have hi' : (i : Int) < 16 := by omega
    have hd : decide ((i : Int) < 0) = false := by simp
    have hc := (h.blk.cell i).trans (cellsA_at F b hi)
    have hfz := h.blk.free i
    clear h hf
    go_enter Try.func25, Try.ntmps25
    go_wp2_with fail
    refine HI.out.mono ?_
    rintro e w' ⟨rfl, rfl⟩
    go_wp2
    go_ret2
    exact ⟨(i : Int) + 1, 0, _, rfl, .inr ⟨i, HF.out, rfl, rfl, rfl⟩, HP.out⟩
end
end Go.Proofs.Ythlhjaacjhlkhaa
