/- The law ringlaw1.HeapTexts. -/
import Derived.Test.YtenhcpobncmedaaHpNS
import Derived.Test.YtenhcpobncmedaaHpX
namespace Go.Proofs.Ytenhcpobncmedaa
open Go.RowKit
set_option maxHeartbeats 600000
set_option linter.unusedVariables false
set_option linter.unusedSimpArgs false
theorem hp_plays_q {w w' : World} {q n : Nat} {A : Option Addr} {ps : List Pl} (h : RPl w q A n ps) (hb : Below q w w') (hq : q ≤ w'.heap.size) : RPl w' w'.heap.size A n ps := by
  have h1 := h.below' hb (Nat.le_refl _)
  exact ⟨h1.1.more hq, fun p hp => ⟨(h1.2 p hp).1.more hq, (h1.2 p hp).2⟩⟩
set_option maxRecDepth 100000 in
theorem law_heapTexts (A : Option Addr) (n c : Nat) (ps : List Pl) (At : Option Addr) (nt ct : Nat) (ts : List ByteArray) (w : World) (h : RPl w w.heap.size A n ps) (hn : n ≤ 5864062014638) (ht : RS tc 1 w w.heap.size At nt ts) (hnt : nt ≤ 140737488355328) :
    Calls Try.prog 6 #[.slice A n c, .slice At nt ct] w fun e w' => e = .returned (.bool true) ∧ Below w.heap.size w w' := by
  have hmf : ∀ fn first cap w, (Instr.makeFunc fn first cap).run Try.prog w = .ok (.func fn first cap) w := fun _ _ _ _ => rfl
  have hb0 : Below w.heap.size w (w.alloc (.cells #[.slice At nt ct] 66)) := (Below.refl _ _).alloc (Nat.le_refl _) _
  have hq0 : Blk (w.alloc (.cells #[.slice At nt ct] 66)) w.heap.size #[.slice At nt ct] 66 := Blk.new _ _ _
  go_enter Try.func6, Try.ntmps6
  go_wp2_with fail
  generalize w.alloc (.cells #[.slice At nt ct] 66) = w0 at *
  obtain ⟨q, hqe⟩ : ∃ q, w.heap.size = q := ⟨_, rfl⟩
  have HQE := Lib.hid hqe
  rw [hqe] at hb0 hq0 h ht ⊢
  clear hqe
  have hql := hq0.lt
  refine (HS.new37 w0).mono ?_
  rintro e w1 ⟨rfl, hw1⟩
  have hok := HS.new_ok w0 w0.heap.size (Nat.le_refl _)
  rw [← hw1] at hok
  have hb1 : Below w0.heap.size w0 w1 := by rw [hw1]; exact ((Below.refl _ _).alloc (Nat.le_refl _) _).alloc (by simp) _
  have HPU := Lib.hid (HS.push_new _ _ _ _ [] _ _ 3 ⟨#[120]⟩ w1 w0.heap.size hok hb1.size (by decide) rfl (by decide) (by decide))
  have HOK := Lib.hid hok
  clear hw1 hok
  generalize w0.heap.size + 1 = g at *
  go_wp2_with fail
  refine HPU.out.mono ?_
  rintro e w2 ⟨rfl, vi2, vk2, ps2, f2, hok2, hp2, hf2, _⟩
  have hb2 : Below w0.heap.size w0 w2 := hb1.trans (hf2.below hb1.size (fun k hk => (HOK.out.st.lt k hk).1))
  have hbq : Below q w w2 := hb0.trans (hb2.mono (by omega))
  have hl2 : ps2.length = 1 := hp2.length_eq
  have HLE := Lib.hid (HS.len39 _ _ _ _ _ _ _ w2 _ hok2.st)
  rw [hl2] at HLE
  have hqz : q ≤ w2.heap.size := by have := hb2.size; omega
  have hcq : w2.cell? ⟨q, 0, none⟩ = some (.slice At nt ct) := (hb2.cell (p := ⟨q, 0, none⟩) hql).trans (hq0.cell 0)
  have hq2 : q < w2.heap.size := by have := hb2.size; omega
  have HLAW := Lib.hid (HS.law40 q (tKey ts) A n c ps w2 (hp_plays_q h hbq hqz) hn (fun v W hv hW => key41 q At nt ct ts v W q (ht.below' (hbq.trans (hW.mono hqz)) (Nat.le_refl _)) hnt ((hW.cell (p := ⟨q, 0, none⟩) hq2).trans hcq) hv))
  clear hok2 hp2 hf2 hl2 HPU HOK hb1 hb2 hb0 hq0 hql
  go_wp2_with fail
  refine HLE.out.mono ?_
  rintro e w3 ⟨rfl, rfl⟩
  go_wp2_with fail
  refine HLAW.out.mono ?_
  rintro e w4 ⟨rfl, hb4⟩
  have hb := hbq.trans (hb4.mono hqz)
  clear hb4 HLAW
  go_wp2
  go_ret
  exact ⟨rfl, by rw [HQE.out]; exact hb⟩
end Go.Proofs.Ytenhcpobncmedaa
