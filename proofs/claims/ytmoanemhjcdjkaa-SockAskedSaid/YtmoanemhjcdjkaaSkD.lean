/- Contract of the sockets' named. -/
import Derived.Test.YtmoanemhjcdjkaaSkC
namespace Go.Proofs.Ytmoanemhjcdjkaa
open Go.RowKit
set_option maxHeartbeats 400000
set_option linter.unusedVariables false
set_option linter.unusedSimpArgs false
theorem run_index54 (w : World) (cs : Array Value) (j : Nat) (u : Value) (hj : j < 16) (h : cs[j]? = some u) : (Instr.index 54 (.agg cs) (.int .i64 j)).run Try.prog w = .ok u w := by
  have h0 : (0 : Int) ≤ j ∧ (j : Int) < (16 : Nat) := by omega
  simp [Instr.index, run_underlying Try.underlying54, asIntOf, h0, go_sem, part, h]
  intro h64
  omega
theorem cellsA_size (F : Fs) (b : Nat → Nat) : (cellsA F b).size = 16 := by simp [cellsA]
theorem info54 (F : Fs) (b : Nat → Nat) : (Try.prog.info? 54).map (·.size) = some (cellsA F b).size := by
  rw [cellsA_size]; kernel_rfl
section
variable {w : World} {B g : Nat} {F : Fs} {L : Nat → Sl} {i : Nat} {p : Sk}
set_option maxRecDepth 100000 in
theorem named_some (h : Re w B g F L) {port : Int} (hn : namedAt F port i) : Calls Try.prog 30 #[.pointer (some ⟨g, 0, none⟩), .int .i64 port] w fun e w' => e = .returned (.tuple #[.int .i64 ((i : Int) + 1), .pointer (some ⟨(L i).b, 0, none⟩)]) ∧ w = w' := by
  obtain ⟨hi, ⟨y, hy, hyp, hyk⟩, hb⟩ := hn
  have HL : Hid (∀ j u, (cellsA F fun i => (L i).b)[j]? = some u → w.cell? ⟨g, 0 + j, none⟩ = some u) := Lib.hid (fun j u hu => by rw [Nat.zero_add]; exact (h.blk.cell j).trans hu)
  have HI := Lib.hid (info54 F fun i => (L i).b)
  have HG := Lib.hid (fun j (hj : j < 16) => run_index54 w _ j _ hj (cellsA_at F (fun i => (L i).b) hj))
  have HB := Lib.hid hb
  have HO := Lib.hid h.ob
  have hlt := h.blk.lt
  have HY : Hid (F i = some y) := Lib.hid hy
  have HP := Lib.hid hyp
  have HK := Lib.hid hyk
  generalize (cellsA F fun i => (L i).b) = cs at *
  clear h hb hy hyp hyk
  go_enter Try.func30, Try.ntmps30
  go_wp2_with (refine wpList_load_arr rfl 54 (.tmp 10) rfl g 0 rfl cs _ HL.out Try.underlying54 rfl HI.out ?_)
  go_loop [12] (fun x => ∃ k : Nat, x = .int .i64 k ∧ k ≤ i) (fun x => i - (intOf x).toNat)
  case atStart => exact ⟨0, rfl, by omega⟩
  case round =>
    obtain ⟨k, rfl, hk⟩ := hrel
    have hk16 : (k : Int) < 16 := by omega
    by_cases hki : k < i
    · have hno : ¬ hasP F port k := HB.out k hki
      cases hF : F k with
      | none =>
        have hx := HG.out k (by omega)
        rw [ptrA_none hF] at hx
        clear hF hno
        go_wp2
        go_round
        case rel => exact ⟨k + 1, by go_num, by omega⟩
        case measure => simp [intOf]; omega
      | some x =>
        have hx := HG.out k (by omega)
        rw [ptrA_some hF] at hx
        obtain ⟨o1, -, -, -, -⟩ := HO.out k x (by omega) hF
        have c0 := o1.cell 0
        have c1 := o1.cell 1
        have hl := o1.lt
        dsimp [Sk.cells] at c0 c1
        by_cases hpo : x.port = port
        · have hk3 : x.kind = 3 := by
            by_cases e : x.kind = 3
            · exact e
            · exact absurd ⟨x, hF, hpo, e⟩ hno
          rw [hpo] at c1
          rw [hk3] at c0
          clear hF hno hpo hk3 o1
          go_wp2
          go_round
          case rel => exact ⟨k + 1, by go_num, by omega⟩
          case measure => simp [intOf]; omega
        · have hd : (x.port == port) = false := by simpa using hpo
          clear hF hno hpo o1
          go_wp2
          go_round
          case rel => exact ⟨k + 1, by go_num, by omega⟩
          case measure => simp [intOf]; omega
    · obtain rfl : k = i := by omega
      have hx := HG.out k (by omega)
      rw [ptrA_some HY.out] at hx
      obtain ⟨o1, -, -, -, -⟩ := HO.out k y (by omega) HY.out
      have c0 := o1.cell 0
      have c1 := o1.cell 1
      have hl := o1.lt
      dsimp [Sk.cells] at c0 c1
      rw [HP.out] at c1
      have hd : (y.kind != 3) = true := by simpa using HK.out
      clear o1
      go_wp2
      go_ret2
      exact ⟨rfl, rfl⟩
set_option maxRecDepth 100000 in
theorem named_none (h : Re w B g F L) {port : Int} (hn : noName F port) : Calls Try.prog 30 #[.pointer (some ⟨g, 0, none⟩), .int .i64 port] w fun e w' => e = .returned (.tuple #[.int .i64 0, .pointer none]) ∧ w = w' := by
  have HL : Hid (∀ j u, (cellsA F fun i => (L i).b)[j]? = some u → w.cell? ⟨g, 0 + j, none⟩ = some u) := Lib.hid (fun j u hu => by rw [Nat.zero_add]; exact (h.blk.cell j).trans hu)
  have HI := Lib.hid (info54 F fun i => (L i).b)
  have HG := Lib.hid (fun j (hj : j < 16) => run_index54 w _ j _ hj (cellsA_at F (fun i => (L i).b) hj))
  have HB := Lib.hid hn
  have HO := Lib.hid h.ob
  have hlt := h.blk.lt
  generalize (cellsA F fun i => (L i).b) = cs at *
  clear h hn
  go_enter Try.func30, Try.ntmps30
  go_wp2_with (refine wpList_load_arr rfl 54 (.tmp 10) rfl g 0 rfl cs _ HL.out Try.underlying54 rfl HI.out ?_)
  go_loop [12] (fun x => ∃ k : Nat, x = .int .i64 k ∧ k ≤ 16) (fun x => 16 - (intOf x).toNat)
  case atStart => exact ⟨0, rfl, by omega⟩
  case round =>
    obtain ⟨k, rfl, hk⟩ := hrel
    by_cases hki : k < 16
    · have hk16 : (k : Int) < 16 := by omega
      have hno : ¬ hasP F port k := HB.out k hki
      cases hF : F k with
      | none =>
        have hx := HG.out k (by omega)
        rw [ptrA_none hF] at hx
        clear hF hno
        go_wp2
        go_round
        case rel => exact ⟨k + 1, by go_num, by omega⟩
        case measure => simp [intOf]; omega
      | some x =>
        have hx := HG.out k (by omega)
        rw [ptrA_some hF] at hx
        obtain ⟨o1, -, -, -, -⟩ := HO.out k x (by omega) hF
        have c0 := o1.cell 0
        have c1 := o1.cell 1
        have hl := o1.lt
        dsimp [Sk.cells] at c0 c1
        by_cases hpo : x.port = port
        · have hk3 : x.kind = 3 := by
            by_cases e : x.kind = 3
            · exact e
            · exact absurd ⟨x, hF, hpo, e⟩ hno
          rw [hpo] at c1
          rw [hk3] at c0
          clear hF hno hpo hk3 o1
          go_wp2
          go_round
          case rel => exact ⟨k + 1, by go_num, by omega⟩
          case measure => simp [intOf]; omega
        · have hd : (x.port == port) = false := by simpa using hpo
          clear hF hno hpo o1
          go_wp2
          go_round
          case rel => exact ⟨k + 1, by go_num, by omega⟩
          case measure => simp [intOf]; omega
    · obtain rfl : k = 16 := by omega
      go_wp2
      go_ret2
      exact ⟨rfl, rfl⟩
end
end Go.Proofs.Ytmoanemhjcdjkaa
