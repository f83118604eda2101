/- Contracts of the sockets' find, Index, Make, named. -/
import Derived.Test.YtmoanemhjcdjkaaSkB
import Derived.Laws.Rows
namespace Go
open Go.RowKit
set_option linter.unusedVariables false
set_option linter.unusedSimpArgs false
section
variable {P : Program}
theorem run_load_arr (w : World) (g off : Nat) (ty : TypeId) (cs : Array Value) (d : TypeDesc) (hc : ∀ j u, cs[j]? = some u → w.cell? ⟨g, off + j, none⟩ = some u)
    (hu : P.underlying ty = some d) (hd : (match d with | .struct _ | .array _ _ => true | _ => false) = true) (hi : (P.info? ty).map (·.size) = some cs.size) :
    (loadVar ty ⟨g, off, none⟩).run P w = .ok (.agg cs) w := by
  have hl : (loadCells ⟨g, off, none⟩ cs.toList.length).run P w = .ok cs.toList.toArray w :=
    run_loadCells_list (P := P) w ⟨g, off, none⟩ cs.toList (fun j v hv => by
      rw [add_plain]
      exact hc j v (by simpa using hv))
  cases hq : P.info? ty with
  | none => simp [hq] at hi
  | some i =>
    have hs : i.size = cs.size := by simpa [hq] using hi
    have hagg : (isAgg ty).run P w = .ok true w := by
      unfold isAgg
      rw [Sem.run_bind, run_underlying hu w]
      cases d <;> simp_all
    simp only [Array.length_toList, Array.toArray_toList] at hl
    simp [loadVar, Sem.run_bind, hagg, sizeOf, typeInfo, hq, hs, hl]
theorem wpList_load_arr {ops : Array Oper} {rest : List Oper} {o : Oper} {a : Act} {w : World} {Q : Exit → Act → World → Prop} (hgd : o.guard = none) (ty : TypeId) (x : Operand) (ho : o.op = .load ty x)
    (g off : Nat) (hx : a.eval x = .pointer (some ⟨g, off, none⟩)) (cs : Array Value) (d : TypeDesc) (hc : ∀ j u, cs[j]? = some u → w.cell? ⟨g, off + j, none⟩ = some u)
    (hu : P.underlying ty = some d) (hd : (match d with | .struct _ | .array _ _ => true | _ => false) = true) (hi : (P.info? ty).map (·.size) = some cs.size)
    (h : wpList P ops Q rest (a.put o.dst (.agg cs)) w) : wpList P ops Q (o :: rest) a w :=
  wpList_plain hgd fun _ hK => by
    unfold Oper.wp execOp
    simp only [ho, hx, Instr.loadAt, Instr.sureAddr, Sem.run_bind, Sem.run_pure, Result.andThen_ok, run_load_arr w g off ty cs d hc hu hd hi]
    exact hK _ _ h
end
end Go
namespace Go.Proofs.Ytmoanemhjcdjkaa
open Go.RowKit
set_option maxHeartbeats 400000
set_option linter.unusedVariables false
set_option linter.unusedSimpArgs false
theorem eq_nil (w : World) (a : Addr) : (binOp .eql 53 (.pointer none) (.pointer (some a))).run Try.prog w = .ok (.bool false) w := by kernel_rfl
section
variable {w : World} {B g : Nat} {F : Fs} {L : Nat → Sl} {i : Nat} {p : Sk}
theorem find_some (h : Re w B g F L) (hi : i < 16) (hp : F i = some p) : Calls Try.prog 29 #[.pointer (some ⟨g, 0, none⟩), .int .i64 ((i : Int) + 1)] w fun e w' => e = .returned (.pointer (some ⟨(L i).b, 0, none⟩)) ∧ w = w' := by
  have hc := (h.blk.cell i).trans (cellsA_at F (fun i => (L i).b) hi)
  rw [ptrA_some hp] at hc
  have hlt := h.blk.lt
  have hd : decide ((i : Int) + 1 < 1) = false := by simp; omega
  have hd2 : decide ((16 : Int) < (i : Int) + 1) = false := by simp; omega
  have hi' : (i : Int) < 16 := by omega
  clear h hp
  go_enter Try.func29, Try.ntmps29
  go_wp2
  go_ret
  exact ⟨rfl, rfl⟩
theorem find_none (h : Re w B g F L) {id : Int} (ha : at1 F id = none) : Calls Try.prog 29 #[.pointer (some ⟨g, 0, none⟩), .int .i64 id] w fun e w' => e = .returned (.pointer none) ∧ w = w' := by
  have hlt := h.blk.lt
  by_cases h1 : id < 1
  · have hd : decide (id < 1) = true := by simpa using h1
    clear h ha
    go_enter Try.func29, Try.ntmps29
    go_wp2
    go_ret
    exact ⟨rfl, rfl⟩
  · have hd : decide (id < 1) = false := by simpa using h1
    by_cases h2 : 16 < id
    · have hd2 : decide ((16 : Int) < id) = true := by simpa using h2
      clear h ha
      go_enter Try.func29, Try.ntmps29
      go_wp2
      go_ret
      exact ⟨rfl, rfl⟩
    · have hd2 : decide ((16 : Int) < id) = false := by simpa using h2
      obtain ⟨i, rfl⟩ : ∃ i : Nat, id = (i : Int) + 1 := ⟨(id - 1).toNat, by omega⟩
      have hi : i < 16 := by omega
      rw [at1_of hi] at ha
      have hc := (h.blk.cell i).trans (cellsA_at F (fun i => (L i).b) hi)
      rw [ptrA_none ha] at hc
      have hi' : (i : Int) < 16 := by omega
      clear h ha
      go_enter Try.func29, Try.ntmps29
      go_wp2
      go_ret
      exact ⟨rfl, rfl⟩
set_option maxRecDepth 100000 in
theorem index_free (h : Re w B g F L) (hf : freeAt F i) : Calls Try.prog 28 #[.slice (some ⟨g, 0, none⟩) 16 16, .pointer none] w fun e w' => e = .returned (.int .i64 i) ∧ w = w' := by
  obtain ⟨hi, hn, hb⟩ := hf
  have HC := Lib.hid (fun j (hj : j < 16) => (h.blk.cell j).trans (cellsA_at F (fun i => (L i).b) hj))
  have HB := Lib.hid hb
  have HN := Lib.hid hn
  have hlt := h.blk.lt
  clear h hb hn
  go_enter Try.func28, Try.ntmps28
  go_wp2_with fail
  go_loop [8] (fun x => ∃ k : Nat, x = .int .i64 k ∧ k ≤ i) (fun x => i - (intOf x).toNat)
  case atStart => exact ⟨0, rfl, by omega⟩
  case round =>
    obtain ⟨k, rfl, hk⟩ := hrel
    have hc := HC.out k (by omega)
    have hk16 : (k : Int) < 16 := by omega
    by_cases hki : k < i
    · obtain ⟨q, hq⟩ : ∃ q, F k = some q := Option.ne_none_iff_exists'.1 (HB.out k hki)
      rw [ptrA_some hq] at hc
      have hrun := eq_nil w ⟨(L k).b, 0, none⟩
      clear hq
      go_wp2
      go_round
      case rel => exact ⟨k + 1, by go_num, by omega⟩
      case measure => simp [intOf]; omega
    · obtain rfl : k = i := by omega
      rw [ptrA_none HN.out] at hc
      go_wp2
      go_ret
      exact ⟨rfl, rfl⟩
set_option maxRecDepth 100000 in
theorem index_full (h : Re w B g F L) (hf : full F) : Calls Try.prog 28 #[.slice (some ⟨g, 0, none⟩) 16 16, .pointer none] w fun e w' => e = .returned (.int .i64 (-1)) ∧ w = w' := by
  have HC := Lib.hid (fun j (hj : j < 16) => (h.blk.cell j).trans (cellsA_at F (fun i => (L i).b) hj))
  have HB := Lib.hid hf
  have hlt := h.blk.lt
  clear h hf
  go_enter Try.func28, Try.ntmps28
  go_wp2_with fail
  go_loop [8] (fun x => ∃ k : Nat, x = .int .i64 k ∧ k ≤ 16) (fun x => 16 - (intOf x).toNat)
  case atStart => exact ⟨0, rfl, by omega⟩
  case round =>
    obtain ⟨k, rfl, hk⟩ := hrel
    by_cases hki : k < 16
    · have hc := HC.out k (by omega)
      have hk16 : (k : Int) < 16 := by omega
      obtain ⟨q, hq⟩ : ∃ q, F k = some q := Option.ne_none_iff_exists'.1 (HB.out k hki)
      rw [ptrA_some hq] at hc
      have hrun := eq_nil w ⟨(L k).b, 0, none⟩
      clear hq
      go_wp2
      go_round
      case rel => exact ⟨k + 1, by go_num, by omega⟩
      case measure => simp [intOf]; omega
    · obtain rfl : k = 16 := by omega
      go_wp2
      go_ret
      exact ⟨rfl, rfl⟩
theorem make_any (h : Re w B g F L) (hB : B ≤ w.heap.size) : Calls Try.prog 5 #[.pointer (some ⟨g, 0, none⟩)] w fun e w' => ∃ x y F', e = .returned (.tuple #[.int .i64 x, .int .i64 y]) ∧ madeR F x y F' ∧ RGo w B g F L F' w' := by
  have hlt := h.blk.lt
  rcases free_or F with hf | ⟨i, hf⟩
  · have HI := Lib.hid (index_full h hf)
    have HP := Lib.hid h.refl
    have HF := Lib.hid hf
    clear h hf
    go_enter Try.func5, Try.ntmps5
    go_wp2_with fail
    refine HI.out.mono ?_
    rintro e w' ⟨rfl, rfl⟩
    go_wp2
    go_ret2
    exact ⟨0, 6, F, rfl, .inl ⟨HF.out, rfl, rfl, rfl⟩, HP.out⟩
  · have HI := Lib.hid (index_free h hf)
    have HP := Lib.hid (h.fill hf.1 hf.2.1 hB)
    have HF := Lib.hid hf
    have hi := hf.1
    have hi' : (i : Int) < 16 := by omega
    have hd : decide ((i : Int) < 0) = false := by simp
    have hc := (h.blk.cell i).trans (cellsA_at F (fun i => (L i).b) hi)
    have hfz := h.blk.free i
    clear h hf
    go_enter Try.func5, Try.ntmps5
    go_wp2_with fail
    refine HI.out.mono ?_
    rintro e w' ⟨rfl, rfl⟩
    go_wp2
    go_ret2
    exact ⟨(i : Int) + 1, 0, _, rfl, .inr ⟨i, HF.out, rfl, rfl, rfl⟩, HP.out⟩
end
end Go.Proofs.Ytmoanemhjcdjkaa
