/- Locks that are slept for: contracts of what only reads (is, waits, Owner, Row, For; the reference's For). -/
import Derived.Test.YtenhcpobncmedaaSeC
namespace Go.Proofs.Ytenhcpobncmedaa
open Go.RowKit Go.Maps
set_option maxHeartbeats 400000
set_option linter.unusedVariables false
set_option linter.unusedSimpArgs false
theorem forM_isSome (F : Nat → List Int) (t : Int) : (forM F t).isSome = (wfor F t).isSome := by unfold forM; cases wfor F t <;> rfl
def isE (s : LkS) (t k : Int) : Int := if k < 0 ∨ 15 < k then 1 else if (s.P t).isSome = true then 0 else 4
section
variable {w : World} {g bp np bf nf : Nat} {s : LkS}
set_option maxRecDepth 100000 in
theorem is116 (h : LkR w g bp np s) (t k : Int) (ht : (Lit.int .i64 t).wf = true) :
    Calls Try.prog 116 #[.pointer (some ⟨g, 0, none⟩), .int .i64 t, .int .i64 k] w fun e w' => e = .returned (.int .i64 (isE s t k)) ∧ w = w' := by
  by_cases h1 : k < 0
  · have e0 : isE s t k = 1 := if_pos (.inl h1)
    rw [e0]
    have d1 : decide (k < 0) = true := by simpa using h1
    clear h h1 e0
    go_enter Try.func116, Try.ntmps116
    go_wp2
    go_ret
    exact ⟨rfl, rfl⟩
  by_cases h2 : 15 < k
  · have e0 : isE s t k = 1 := if_pos (.inr h2)
    rw [e0]
    have d1 : decide (k < 0) = false := by simpa using h1
    have d2 : decide (16 ≤ k) = true := by simp; omega
    clear h h1 h2 e0
    go_enter Try.func116, Try.ntmps116
    go_wp2
    go_ret
    exact ⟨rfl, rfl⟩
  have d1 : decide (k < 0) = false := by simpa using h1
  have d2 : decide (16 ≤ k) = false := by simp; omega
  have hl := h.look ht
  have hp := h.hp
  have e0 : isE s t k = if (s.P t).isSome = true then 0 else 4 := if_neg (by omega)
  rw [e0]
  generalize (s.P t).getD 0 = p at *
  clear h h1 h2 e0
  cases hb : (s.P t).isSome with
  | true =>
    rw [hb] at hl
    clear hb
    go_enter Try.func116, Try.ntmps116
    go_wp2
    go_ret
    exact ⟨rfl, rfl⟩
  | false =>
    rw [hb] at hl
    clear hb
    go_enter Try.func116, Try.ntmps116
    go_wp2
    go_ret
    exact ⟨rfl, rfl⟩
set_option maxRecDepth 100000 in
theorem waits117 (h : LkQ w g bp np bf nf s) (t : Int) (ht : (Lit.int .i64 t).wf = true) :
    Calls Try.prog 117 #[.pointer (some ⟨g, 0, none⟩), .int .i64 t] w fun e w' => e = .returned (.bool (wfor s.F t).isSome) ∧ w = w' := by
  have hl := h.lookF ht
  have hf := h.hf
  have e0 : (forM s.F t).isSome = (wfor s.F t).isSome := forM_isSome _ _
  rw [e0] at hl
  generalize (forM s.F t).getD 0 = p at *
  generalize (wfor s.F t).isSome = b at *
  clear h e0
  go_enter Try.func117, Try.ntmps117
  go_wp2
  go_ret
  exact ⟨rfl, rfl⟩
def ownE (s : LkS) (k : Nat) : Int := if k < 16 then 0 else 1
def ownV (s : LkS) (k : Nat) : Int := if k < 16 then s.O k else 0
set_option maxRecDepth 100000 in
theorem owner122 (h : LkR w g bp np s) (k : Nat) (hk : k < 17) :
    Calls Try.prog 122 #[.pointer (some ⟨g, 0, none⟩), .int .i64 k] w fun e w' => e = .returned (.tuple #[.int .i64 (ownV s k), .int .i64 (ownE s k)]) ∧ w = w' := by
  have d1 : decide ((k : Int) < 0) = false := by simp
  by_cases h2 : k < 16
  · have d2 : decide (16 ≤ (k : Int)) = false := by simp; omega
    have ho := h.ho k h2
    have e1 : ownV s k = s.O k := if_pos h2
    have e2 : ownE s k = 0 := if_pos h2
    rw [e1, e2]
    have hk0 : (0 : Int) ≤ k := by omega
    have hk1 : (k : Int) < 16 := by omega
    generalize s.O k = o at *
    clear h e1 e2
    go_enter Try.func122, Try.ntmps122
    go_wp2
    go_ret2
    exact ⟨rfl, rfl⟩
  · have d2 : decide (16 ≤ (k : Int)) = true := by simp; omega
    have e1 : ownV s k = 0 := if_neg h2
    have e2 : ownE s k = 1 := if_neg h2
    rw [e1, e2]
    clear h e1 e2
    go_enter Try.func122, Try.ntmps122
    go_wp2
    go_ret2
    exact ⟨rfl, rfl⟩
def RowPost (w : World) (xs : List Int) (er : Int) (e : Ending) (w' : World) : Prop :=
  ∃ A n c, e = .returned (.tuple #[.slice A n c, .int .i64 er]) ∧ RD w' w'.heap.size A n xs ∧ n ≤ 9223372036854775807 ∧ Below w.heap.size w w'
def rowV (s : LkS) (k : Nat) : List Int := if k < 16 then s.F k else []
set_option maxRecDepth 100000 in
theorem row123 (h : LkR w g bp np s) (k : Nat) (hk : k < 17) (hl : ∀ i, i < 16 → (s.F i).length ≤ 1000) :
    Calls Try.prog 123 #[.pointer (some ⟨g, 0, none⟩), .int .i64 k] w (RowPost w (rowV s k) (ownE s k)) := by
  have d1 : decide ((k : Int) < 0) = false := by simp
  by_cases h2 : k < 16
  · have d2 : decide (16 ≤ (k : Int)) = false := by simp; omega
    obtain ⟨A, n, c, hc, hr, hn⟩ := h.hr k h2
    have e1 : rowV s k = s.F k := if_pos h2
    have e2 : ownE s k = 0 := if_pos h2
    rw [e1, e2]
    have hl1 := hl k h2
    have hln := hr.len
    have HC := Lib.hid (clone_any A n c (s.F k) w _ hr (Nat.le_refl _) (by omega))
    have hk0 : (0 : Int) ≤ k := by omega
    have hk1 : (k : Int) < 16 := by omega
    have hn1 : n ≤ 1000 := by omega
    generalize s.F k = xs at *
    clear h e1 e2 hl hr hl1 hln
    go_enter Try.func123, Try.ntmps123
    go_wp2_with fail
    refine HC.out.mono ?_
    rintro e w1 ⟨v, rfl, hr1, hb1⟩
    obtain ⟨A1, c1, rfl, -, -⟩ := hr1.shape
    have HR := Lib.hid (RD.of_row hr1)
    clear hr1
    go_wp2
    go_ret2
    exact ⟨A1, n, c1, rfl, HR.out, by omega, hb1⟩
  · have d2 : decide (16 ≤ (k : Int)) = true := by simp; omega
    have e1 : rowV s k = [] := if_neg h2
    have e2 : ownE s k = 1 := if_neg h2
    rw [e1, e2]
    clear h e1 e2 hl
    go_enter Try.func123, Try.ntmps123
    go_wp2
    go_ret2
    exact ⟨none, 0, 0, rfl, ⟨by simp, fun h => by omega⟩, by omega, Below.refl _ _⟩
def forE (s : LkS) (t : Int) : Int := if (s.P t).isSome = true then (if (wfor s.F t).isSome = true then 0 else 8) else 4
def forV (s : LkS) (t : Int) : Int := if (s.P t).isSome = true then (forM s.F t).getD 0 else 0
set_option maxRecDepth 100000 in
theorem for124 (h : LkQ w g bp np bf nf s) (t : Int) (ht : (Lit.int .i64 t).wf = true) :
    Calls Try.prog 124 #[.pointer (some ⟨g, 0, none⟩), .int .i64 t] w fun e w' => e = .returned (.tuple #[.int .i64 (forV s t), .int .i64 (forE s t)]) ∧ w = w' := by
  have hl := h.toLkR.look ht
  have hl2 := h.lookF ht
  have hp := h.hp
  have hf := h.hf
  have e0 : (forM s.F t).isSome = (wfor s.F t).isSome := forM_isSome _ _
  have e1 : (wfor s.F t).isSome = false → (forM s.F t).getD 0 = 0 := fun e => by
    cases hw : wfor s.F t with
    | none => simp [forM, hw]
    | some k => rw [hw] at e; cases e
  rw [e0] at hl2
  unfold forV forE
  generalize (forM s.F t).getD 0 = q at *
  generalize (s.P t).getD 0 = p at *
  clear h e0
  cases hb : (s.P t).isSome with
  | true =>
    rw [hb] at hl
    clear hb
    cases hb2 : (wfor s.F t).isSome with
    | true =>
      rw [hb2] at hl2
      clear hb2 e1
      go_enter Try.func124, Try.ntmps124
      go_wp2
      go_ret2
      exact ⟨rfl, rfl⟩
    | false =>
      rw [hb2] at hl2
      have e3 := e1 hb2
      subst e3
      clear hb2 e1
      go_enter Try.func124, Try.ntmps124
      go_wp2
      go_ret2
      exact ⟨rfl, rfl⟩
  | false =>
    rw [hb] at hl
    clear hb e1
    go_enter Try.func124, Try.ntmps124
    go_wp2
    go_ret2
    exact ⟨rfl, rfl⟩
theorem run_index89 (w : World) (cs : Array Value) (j : Nat) (A : Option Addr) (n c : Nat) (hj : j < 16) (h : cs[j]? = some (.slice A n c)) : (Instr.index 89 (.agg cs) (.int .i64 j)).run Try.prog w = .ok (.slice A n c) w := by
  have h0 : (0 : Int) ≤ j ∧ (j : Int) < (16 : Nat) := by omega
  simp [Instr.index, run_underlying Try.underlying89, asIntOf, h0, go_sem, part, h]
  intro h64
  omega
/-- The rows as one value. -/
def rowsA (w : World) (g : Nat) : Array Value := ((List.range 16).map fun i => (w.cell? ⟨g, 17 + i, none⟩).getD undef).toArray
theorem rowsA_at {i : Nat} (hi : i < 16) {u : Value} (h : w.cell? ⟨g, 17 + i, none⟩ = some u) : (rowsA w g)[i]? = some u := by
  unfold rowsA
  rw [List.getElem?_toArray]
  simp [hi, h]
theorem rowsA_cell (h : LkR w g bp np s) : ∀ j u, (rowsA w g)[j]? = some u → w.cell? ⟨g, 17 + j, none⟩ = some u := by
  intro j u hu
  have hj : j < 16 := by
    have := (Array.getElem?_eq_some_iff.1 hu).1
    simpa [rowsA] using this
  obtain ⟨A, n, c, hc, _⟩ := h.hr j hj
  rw [rowsA_at hj hc] at hu
  rw [hc]; exact hu
theorem rowsA_size (w : World) (g : Nat) : (rowsA w g).size = 16 := by simp [rowsA]
theorem info89 (w : World) (g : Nat) : (Try.prog.info? 89).map (·.size) = some (rowsA w g).size := by
  rw [rowsA_size]; kernel_rfl
set_option maxRecDepth 100000 in
theorem for55 (h : LkR w g bp np s) (t : Int) :
    Calls Try.prog 55 #[.pointer (some ⟨g, 0, none⟩), .int .i64 t] w fun e w' => e = .returned (.int .i64 (forI s.F t)) ∧ w = w' := by
  have HL := Lib.hid (rowsA_cell h)
  have HX := Lib.hid (fun i hi => h.hr i hi)
  have HG := Lib.hid (fun i hi A n c (hc : w.cell? ⟨g, 17 + i, none⟩ = some (.slice A n c)) => run_index89 w (rowsA w g) i A n c hi (rowsA_at hi hc))
  have HI := Lib.hid (info89 w g)
  generalize rowsA w g = cs at *
  clear h
  go_enter Try.func55, Try.ntmps55
  go_wp2_with (refine wpList_load_arr rfl 89 (.tmp 9) rfl g 17 rfl cs _ HL.out Try.underlying89 rfl HI.out ?_)
  go_loop [11] (fun i => ∃ k : Nat, k ≤ 16 ∧ i = .int .i64 k ∧ Hid (∀ j, j < k → (s.F j).contains t = false)) (fun i => 16 - (intOf i).toNat)
  case atStart => exact ⟨0, by omega, rfl, Lib.hid (fun j hj => by omega)⟩
  case round =>
    obtain ⟨k, hk, rfl, hno⟩ := hrel
    by_cases hlt : k < 16
    · obtain ⟨A, n, c, hc, hr, hn⟩ := HX.out k hlt
      have hkn : (k : Int) < 16 := by omega
      have hix := HG.out k hlt A n c hc
      have HF := Lib.hid (contains_any A n c t (s.F k) w _ hr hn)
      have hY := Lib.hid (fun y => forI_at (F := s.F) (t := t) hlt y hno.out)
      have hN := Lib.hid (fun y => sl_next (p := fun j => (s.F j).contains t = false) hno.out y)
      clear hr hc
      cases hct : (s.F k).contains t with
      | true =>
        have hr' := Lib.hid (hY.out hct)
        rw [hct] at HF
        clear hct
        go_wp2_with fail
        refine HF.out.mono ?_
        rintro e w' ⟨rfl, rfl⟩
        go_wp2
        go_ret
        exact ⟨sl_int hr'.out.symm, rfl⟩
      | false =>
        have hr' := Lib.hid (hN.out hct)
        rw [hct] at HF
        clear hct
        go_wp2_with fail
        refine HF.out.mono ?_
        rintro e w' ⟨rfl, rfl⟩
        go_wp2
        go_round
        case rel => exact ⟨k + 1, by omega, by go_num, hr'⟩
        case measure => simp [intOf]; omega
    · obtain rfl : k = 16 := by omega
      go_wp2
      go_ret
      exact ⟨sl_int (forI_none hno.out).symm, rfl⟩
end
end Go.Proofs.Ytenhcpobncmedaa
