/- Proved: for all bytes b the call ringlaw4.SegRead returns true and leaves its argument as it was. No condition. -/
import Derived.Test.YthlhjaacjhlkhaaRows
import Derived.Test.YthlhjaacjhlkhaaSegG
import Derived.Test.YthlhjaacjhlkhaaOpen
namespace Go.Proofs.Ythlhjaacjhlkhaa
open Go.ChangeShapes Go.WideShapes Go.ChangeAt Go.RowKit Go.Joins Go.Deep
set_option maxHeartbeats 400000
set_option linter.unusedVariables false
set_option linter.unusedSimpArgs false
theorem dec_any (f : Nat) (h1 : ∀ (A : Option Addr) (n c : Nat) (xs : List Int) (w : World), RB w w.heap.size A n xs → n < 14 → Calls Try.prog f #[.slice A n c] w (DecPost w (.bad 21)))
    (h2 : ∀ (n c : Nat) (xs : List Int) (w : World) (b o : Nat), RB w w.heap.size (some ⟨b, o, none⟩) n xs → 14 ≤ n → n ≤ c → c ≤ 9223372036854775807 → b < w.heap.size → (n : Int) < 14 + xs.getD 10 0 → Calls Try.prog f #[.slice (some ⟨b, o, none⟩) n c] w (DecPost w (.bad 21)))
    (h3 : ∀ (n c : Nat) (xs : List Int) (w : World) (b o : Nat), RB w w.heap.size (some ⟨b, o, none⟩) n xs → 14 ≤ n → n ≤ c → c ≤ 9223372036854775807 → b < w.heap.size → ¬ (n : Int) < 14 + xs.getD 10 0 → (14 + xs.getD 10 0 < (n : Int) ∨ xs.getD 11 0 ≠ 0) → Calls Try.prog f #[.slice (some ⟨b, o, none⟩) n c] w (DecPost w (.bad 3)))
    (h4 : ∀ (n c : Nat) (xs : List Int) (w : World) (b o : Nat), RB w w.heap.size (some ⟨b, o, none⟩) n xs → 14 ≤ n → n ≤ 1000 → n ≤ c → c ≤ 9223372036854775807 → b < w.heap.size → (n : Int) = 14 + xs.getD 10 0 → xs.getD 11 0 = 0 → ∀ r : Dec, (r = if xs.getD 12 0 * 256 + xs.getD 13 0 ≠ sumI (plainI xs) then .bad 20 else
      if checkI (xs.getD 8 0) (xs.getD 9 0) (xs.length - 14) ≠ 0 then .bad (checkI (xs.getD 8 0) (xs.getD 9 0) (xs.length - 14)) else
      ⟨wordI xs, wordI (xs.drop 4), xs.getD 8 0, xs.getD 9 0, xs.drop 14, 0⟩) → Calls Try.prog f #[.slice (some ⟨b, o, none⟩) n c] w (DecPost w r))
    (A : Option Addr) (n c : Nat) (xs : List Int) (w : World) (h : RB w w.heap.size A n xs) (hnc : n ≤ c) (hc : c ≤ 9223372036854775807) : Calls Try.prog f #[.slice A n c] w (DecPost w (decI xs)) := by
  have hl := h.len
  unfold decI
  by_cases c1 : xs.length < 14
  · rw [if_pos c1]; exact h1 A n c xs w h (by omega)
  rw [if_neg c1]
  obtain ⟨b, o, rfl, hb, -⟩ := h.at_ (k := 0) (by omega)
  by_cases c2 : (xs.length : Int) < 14 + xs.getD 10 0
  · rw [if_pos c2]; exact h2 n c xs w b o h (by omega) hnc hc hb (by omega)
  rw [if_neg c2]
  by_cases c3 : 14 + xs.getD 10 0 < (xs.length : Int) ∨ xs.getD 11 0 ≠ 0
  · rw [if_pos c3]; exact h3 n c xs w b o h (by omega) hnc hc hb (by omega) (by rw [hl] at c3; exact c3)
  rw [if_neg c3]
  have r10 := h.rng 10
  exact h4 n c xs w b o h (by omega) (by omega) hnc hc hb (by omega) (by omega) _ rfl
theorem decode_any (A : Option Addr) (n c : Nat) (xs : List Int) (w : World) (h : RB w w.heap.size A n xs) (hnc : n ≤ c) (hc : c ≤ 9223372036854775807) : Calls Try.prog 21 #[.slice A n c] w (DecPost w (decI xs)) :=
  dec_any 21 decode_1 decode_2 decode_3 decode_4 A n c xs w h hnc hc
theorem segOf_any (A : Option Addr) (n c : Nat) (xs : List Int) (w : World) (h : RB w w.heap.size A n xs) (hnc : n ≤ c) (hc : c ≤ 9223372036854775807) : Calls Try.prog 22 #[.slice A n c] w (DecPost w (decI xs)) :=
  dec_any 22 segOf_1 segOf_2 segOf_3 segOf_4 A n c xs w h hnc hc
theorem sameSeg_eq (x1 x2 x3 x4 : Int) (A A' : Option Addr) (m c m' c' : Nat) (ds : List Int) (w : World) (h : RB w w.heap.size A m ds) (h' : RB w w.heap.size A' m' ds) :
    Calls Try.prog 23 #[.agg #[.int .u32 x1, .int .u32 x2, .int .i64 x3, .int .i64 x4, .slice A m c], .agg #[.int .u32 x1, .int .u32 x2, .int .i64 x3, .int .i64 x4, .slice A' m' c']] w fun e w' => e = .returned (.bool true) ∧ Below w.heap.size w w' := by
  go_enter Try.func23, Try.ntmps23
  go_wp2_with (go_at_call 18; refine (sameBytes_any _ _ _ _ _ _ ds ds _ _ _ ((h.alloc (Nat.le_refl _) _).alloc (by simp) _) ((h'.alloc (Nat.le_refl _) _).alloc (by simp) _)).mono ?_; rintro e w1 ⟨rfl, rfl⟩)
  go_ret
  exact ⟨ret_bool (by simp), ((Below.refl _ _).alloc (Nat.le_refl _) _).alloc (by simp) _⟩
theorem law_read (A : Option Addr) (n c : Nat) (xs : List Int) (w : World) (h : RB w w.heap.size A n xs) (hnc : n ≤ c) (hc : c ≤ 9223372036854775807) :
    Calls Try.prog 5 #[.slice A n c] w fun e w' => e = .returned (.bool true) ∧ Below w.heap.size w w' := by
  have h21 := Lib.hid (fun W (hW : Below w.heap.size w W) => decode_any A n c xs W ((h.below' hW (Nat.le_refl _)).more hW.size) hnc hc)
  have h22 := Lib.hid (fun W (hW : Below w.heap.size w W) => segOf_any A n c xs W ((h.below' hW (Nat.le_refl _)).more hW.size) hnc hc)
  generalize decI xs = D at *
  go_enter Try.func5, Try.ntmps5
  go_wp2_with fail
  refine (h21.out _ (Below.refl _ _)).mono ?_
  rintro e w1 ⟨A1, m1, c1, rfl, hr1, hb1⟩
  go_wp2_with fail
  refine (h22.out _ (hb1.alloc hb1.size _)).mono ?_
  rintro e w2 ⟨A2, m2, c2, rfl, hr2, hb2⟩
  have hb2' : Below (w1.heap.size + 1) _ w2 := hb2.mono (by simp)
  obtain ⟨k0, k1, k2, k3, k4⟩ := box5 hb2'
  have hs2 : w1.heap.size + 1 ≤ w2.heap.size := by have := hb2.size; simpa using this
  have hk : w1.heap.size < w2.heap.size := by omega
  have hr1' := ((hr1.alloc (Nat.le_refl _) (.cells #[.int .u32 D.seq, .int .u32 D.ack, .int .i64 D.flags, .int .i64 D.window, .slice A1 m1 c1] 25)).below' hb2 (by simp)).more (B' := w2.heap.size) (by omega)
  have hbw2 : Below w.heap.size w w2 := (hb1.alloc hb1.size _).trans (hb2.mono (by simp; exact Nat.le_succ_of_le hb1.size))
  clear hb1 hb2 hb2' hr1 h21 h22
  generalize D.seq = x1 at *
  generalize D.ack = x2 at *
  generalize D.flags = x3 at *
  generalize D.window = x4 at *
  generalize D.err = x5 at *
  go_wp2_with (go_at_call 23; refine (sameSeg_eq _ _ _ _ _ _ _ _ _ _ D.data _ ((hr1'.alloc (Nat.le_refl _) _).more (by simp)) ((hr2.alloc (Nat.le_refl _) _).more (by simp))).mono ?_; rintro e w3 ⟨rfl, hb3⟩)
  go_ret
  have h1 := hbw2.size
  exact ⟨rfl, (hbw2.alloc h1 _).trans (hb3.mono (by simp; omega))⟩

theorem Try.own5 : ownKnob Try.prog.godebug = none := by kernel_rfl
theorem Try.laidOut5 : laidOutB Try.prog = true := by kernel_rfl
set_option maxRecDepth 100000 in
theorem segRead_lifted (os : Os) (started : os.Started) (H : Type) (enc : TypeId × Value → H) :
    ReturnsInHanded {} Try.checked os 5 .any (Rows.segReadSpec.pre6 enc Try.prog Try.f5 Rows.segReadRow.domain false) (Rows.segReadSpec.post enc Try.prog Try.f5 false true false false) := by
  refine law_lifted (C := Try.checked) Try.own5 started (by kernel_rfl) Try.func5
    (ChangeSpec.witness6 (enc := enc) (C := Try.checked) false ⟨#[], #[.slice none 0 0], []⟩ 8 (by kernel_rfl) (by kernel_rfl) (by kernel_rfl) (by kernel_rfl))
    Try.laidOut5 (by kernel_rfl) rfl ?_ (tb := 4) (by kernel_rfl) Try.underlying4 ?_
  · intro ds h
    match ds, h with
    | [d0], _ => rfl
  · intro W base args ds ps hval0 hA0 hfz hsz0
    have hval : ∀ (j : Nat) t v, Try.f5.params[j]? = some t → args[j]? = some v → Value.okWide Try.prog W .any base t v := hval0
    have hA : DataW.TrodAll enc Try.prog W 0 (fun _ => true) true Try.f5.params.toList args.toList ds ps := hA0
    rw [Try.params5] at hA hval
    obtain ⟨v0, d0, rfl, rfl, h0⟩ := trodAll_one hA
    obtain ⟨a0, n0, c0, rfl⟩ := okWide_slice Try.underlying23 (hval 0 23 v0 rfl rfl)
    obtain ⟨fuel, hf⟩ := h0
    obtain ⟨A, n, c, xs, hv, hr, hnc, hcm, hw⟩ := open_ri Try.underlying23 Try.underlying5 (by kernel_rfl) (by simpa [Value.cells] using hf)
    rw [hv]
    exact law_read A n c xs W hr.rb hnc (by unfold maxLen at hcm; omega)

theorem segRead_holds : Rows.SegReadSaid :=
  OpenClaim.holds_of_wide 5 Try.f5 rfl rfl rfl rfl rfl rfl rfl ⟨rfl, rfl, rfl, rfl, rfl⟩ rfl rfl rfl rfl rfl (by kernel_rfl) Try.func5 (by kernel_rfl)
    (of_decide_eq_true (by kernel_rfl)) (by unfold Func.isWrapper; first | (rw [if_pos (by decide +kernel)]; kernel_rfl) | (rw [if_neg (by decide +kernel)]; exact ⟨rfl, rfl⟩))
    (fun os started H enc _ => segRead_lifted os started H enc)
#print axioms segRead_holds
end Go.Proofs.Ythlhjaacjhlkhaa
