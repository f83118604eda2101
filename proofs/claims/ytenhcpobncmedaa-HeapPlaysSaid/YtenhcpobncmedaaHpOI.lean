/- The law ringlaw1.HeapPlays. -/
import Derived.Test.YtenhcpobncmedaaHpNI
namespace Go.Proofs.Ytenhcpobncmedaa
open Go.RowKit
set_option maxHeartbeats 600000
set_option linter.unusedVariables false
set_option linter.unusedSimpArgs false
theorem hp_plays {w w' : World} {n : Nat} {A : Option Addr} {ps : List Pl} (h : RPl w w.heap.size A n ps) (hb : Below w.heap.size w w') : RPl w' w'.heap.size A n ps := by
  have h1 := h.below' hb (Nat.le_refl _)
  exact ⟨h1.1.more hb.size, fun p hp => ⟨(h1.2 p hp).1.more hb.size, (h1.2 p hp).2⟩⟩
set_option maxRecDepth 100000 in
theorem key36 (v : Int) (w : World) : Calls Try.prog 36 #[.int .i64 v] w fun e w' => e = .returned (.int .i64 v) ∧ w' = w := by
  go_enter Try.func36, Try.ntmps36
  go_wp2
  go_ret
  exact ⟨rfl, rfl⟩
set_option maxRecDepth 100000 in
theorem law_heapPlays (A : Option Addr) (n c : Nat) (ps : List Pl) (w : World) (h : RPl w w.heap.size A n ps) (hn : n ≤ 5864062014638) :
    Calls Try.prog 5 #[.slice A n c] w fun e w' => e = .returned (.bool true) ∧ Below w.heap.size w w' := by
  go_enter Try.func5, Try.ntmps5
  go_wp2_with fail
  refine (HI.new32 w).mono ?_
  rintro e w1 ⟨rfl, hw1⟩
  have hok := HI.new_ok w w.heap.size (Nat.le_refl _)
  rw [← hw1] at hok
  have hb1 : Below w.heap.size w w1 := by rw [hw1]; exact ((Below.refl _ _).alloc (Nat.le_refl _) _).alloc (by simp) _
  have HPU := Lib.hid (HI.push_new _ _ _ _ [] _ _ 3 5 w1 w.heap.size hok hb1.size (by decide) rfl (by decide) (by decide))
  have HOK := Lib.hid hok
  clear hw1 hok
  generalize w.heap.size + 1 = g at *
  go_wp2_with fail
  refine HPU.out.mono ?_
  rintro e w2 ⟨rfl, vi2, vk2, ps2, f2, hok2, hp2, hf2, _⟩
  have hb2 : Below w.heap.size w w2 := hb1.trans (hf2.below hb1.size (fun k hk => (HOK.out.st.lt k hk).1))
  have hl2 : ps2.length = 1 := hp2.length_eq
  have HLE := Lib.hid (HI.len34 _ _ _ _ _ _ _ w2 _ hok2.st)
  rw [hl2] at HLE
  have HLAW := Lib.hid (HI.law35 (fun v => v) A n c ps w2 (hp_plays h hb2) hn (fun v W _ _ => (key36 v W).mono (fun e w' hh => ⟨hh.1, 0, hh.2⟩)))
  clear hok2 hp2 hf2 hl2 HPU HOK hb1
  go_wp2_with fail
  refine HLE.out.mono ?_
  rintro e w3 ⟨rfl, rfl⟩
  go_wp2_with fail
  refine HLAW.out.mono ?_
  rintro e w4 ⟨rfl, hb4⟩
  have hb := hb2.trans (hb4.mono hb2.size)
  clear hb4 HLAW
  go_wp2
  go_ret
  exact ⟨rfl, hb⟩
end Go.Proofs.Ytenhcpobncmedaa
