/- One end of a stream, the reference: its object; contracts of acked, Begun, Closed, Ticked, Told. -/
import Derived.Test.YthlhjaacjhlkhaaStH
namespace Go.Proofs.Ythlhjaacjhlkhaa
open Go.RowKit
set_option maxHeartbeats 400000
set_option linter.unusedVariables false
set_option linter.unusedSimpArgs false
theorem told5 {a z z' g : Int} {b1 b2 : Bool} (h : z = z') : Ending.returned (.tuple #[.int .i64 a, .int .i64 z, .int .i64 g, .bool b1, .bool b2]) = .returned (.tuple #[.int .i64 a, .int .i64 z', .int .i64 g, .bool b1, .bool b2]) := by rw [h]
theorem results_tmp5 {fn : Func} {t u v x y : Tmp} (h : fn.results = #[.tmp t, .tmp u, .tmp v, .tmp x, .tmp y]) (tmps : Array Value) (P : Program) (w : World) :
    (results fn tmps).run P w = .ok (.tuple #[tmps.getD t undef, tmps.getD u undef, tmps.getD v undef, tmps.getD x undef, tmps.getD y undef]) w := by
  simp [results, h]
def rcells (s : Sm) (vo vi : Value) : Array Value := #[.int .i64 s.st, .int .u32 s.iss, .int .u32 s.irs, vo, vi, .int .i64 s.rd, .int .i64 s.una, .int .i64 s.nxt, .int .i64 s.top, .int .i64 s.peer, .bool s.shut, .bool s.fin, .bool s.due, .int .i64 s.wait, .int .i64 s.tries]
def RSt (w : World) (B q : Nat) (s : Sm) (vo vi : Value) : Prop := Ob2 w B q 66 (rcells s) vo vi s.said s.got
def RSGo (w : World) (B q : Nat) (vo vi : Value) (s : Sm) (w' : World) : Prop := Ob2Go w B q 66 vo vi (rcells s) s.said s.got w'
theorem RSt.look {w : World} {B q : Nat} {s : Sm} {vo vi : Value} (h : RSt w B q s vo vi) : ∃ A c A' c', vo = .slice A s.said.length c ∧ vi = .slice A' s.got.length c' ∧ s.said.length ≤ c ∧ c ≤ 9223372036854775807 ∧ s.got.length ≤ c' ∧ c' ≤ 9223372036854775807 := by
  obtain ⟨A, c, e1, h1, h2⟩ := Ob2.ro h |>.shape
  obtain ⟨A', c', e2, h3, h4⟩ := Ob2.ri h |>.shape
  unfold maxLen at h2 h4
  exact ⟨A, c, A', c', e1, e2, h1, h2, h3, h4⟩
section
variable {w : World} {B q : Nat} {s : Sm} {vo vi : Value} {m : Nat}
set_option maxRecDepth 100000 in
theorem racked (h : RSt w B q s vo vi) (hm : s.una ≤ 1000000) (hl : s.said.length ≤ 1000000) : Calls Try.prog 94 #[.pointer (some ⟨q, 0, none⟩)] w fun e w' => e = .returned (.int .i64 s.acked) ∧ w = w' := by
  obtain ⟨A, c, A', c', rfl, rfl, h1, h2, h3, h4⟩ := h.look
  have hc := (Ob2.blk h).cell
  have hlt := (Ob2.blk h).lt
  have ha : s.acked = min (s.una - 1) s.said.length := rfl
  have HA := Lib.hid ha
  dsimp only [rcells] at hc
  clear h ha
  generalize s.acked = ak at *
  generalize s.una = u at *
  generalize s.said.length = l at *
  by_cases hu : (u : Int) - 1 < 0
  · have d1 : decide ((u : Int) - 1 < 0) = true := by simpa using hu
    have HE : Hid ((0 : Int) = ak) := Lib.hid (by rw [HA.out]; omega)
    clear hu
    go_enter Try.func94, Try.ntmps94
    go_wp2
    go_ret
    exact ⟨ret_int HE.out, rfl⟩
  have d1 : decide ((u : Int) - 1 < 0) = false := by simpa using hu
  by_cases hg : (l : Int) < u - 1
  · have d2 : decide ((l : Int) < u - 1) = true := by simpa using hg
    have HE : Hid ((l : Int) = ak) := Lib.hid (by rw [HA.out]; omega)
    clear hu hg
    go_enter Try.func94, Try.ntmps94
    go_wp2
    go_ret
    exact ⟨ret_int HE.out, rfl⟩
  · have d2 : decide ((l : Int) < u - 1) = false := by simpa using hg
    have HE : Hid ((u : Int) - 1 = ak) := Lib.hid (by rw [HA.out]; omega)
    clear hu hg
    go_enter Try.func94, Try.ntmps94
    go_wp2
    go_ret
    exact ⟨ret_int HE.out, rfl⟩
def RRet (er : Int) (w : World) (B q : Nat) (vo vi : Value) (s' : Sm) (e : Ending) (w' : World) : Prop := e = .returned (.int .i64 er) ∧ RSGo w B q vo vi s' w'
def RRetV (w : World) (B q : Nat) (vo vi : Value) (s' : Sm) (e : Ending) (w' : World) : Prop := e = .returned (.tuple #[]) ∧ RSGo w B q vo vi s' w'
set_option maxRecDepth 100000 in
theorem rclosed (h : RSt w B q s vo vi) : Calls Try.prog 46 #[.pointer (some ⟨q, 0, none⟩)] w (RRet s.closedE w B q vo vi s.closedS) := by
  have HS := Lib.hid (Ob2.same h (Below.refl _ w))
  have hc := (Ob2.blk h).cell
  have hf := (Ob2.blk h).free
  have hlt := (Ob2.blk h).lt
  dsimp only [rcells] at hc
  have HG := Lib.hid h
  clear h
  by_cases h1 : s.st < 2
  · have e1 : s.closedE = 8 := if_pos (.inl h1)
    have e2 : s.closedS = s := if_neg (by rw [e1]; decide)
    rw [e1, e2]
    have d1 : decide (s.st < 2) = true := by simpa using h1
    clear e1 e2 h1
    go_enter Try.func46, Try.ntmps46
    go_wp2
    go_ret
    exact ⟨rfl, HS.out⟩
  have d1 : decide (s.st < 2) = false := by simpa using h1
  by_cases h2 : 4 < s.st
  · have e1 : s.closedE = 8 := if_pos (.inr (.inl h2))
    have e2 : s.closedS = s := if_neg (by rw [e1]; decide)
    rw [e1, e2]
    have d2 : decide (4 < s.st) = true := by simpa using h2
    clear e1 e2 h1 h2
    go_enter Try.func46, Try.ntmps46
    go_wp2
    go_ret
    exact ⟨rfl, HS.out⟩
  have d2 : decide (4 < s.st) = false := by simpa using h2
  cases h3 : s.shut with
  | true =>
    have e1 : s.closedE = 8 := if_pos (.inr (.inr h3))
    have e2 : s.closedS = s := if_neg (by rw [e1]; decide)
    rw [e1, e2]
    rw [h3] at hc
    clear e1 e2 h1 h2 h3
    go_enter Try.func46, Try.ntmps46
    go_wp2
    go_ret
    exact ⟨rfl, HS.out⟩
  | false =>
    have e1 : s.closedE = 0 := if_neg (by rw [h3]; simp; omega)
    have e2 : s.closedS = { s with shut := true } := if_pos e1
    rw [e1, e2]
    rw [h3] at hc
    have HX : Hid (RSGo w B q vo vi { s with shut := true } (w.setCell ⟨q, 10, none⟩ (.bool true))) := Lib.hid (by
      have hX := Ob2.set1 (cs' := rcells { s with shut := true }) HG.out 10 (.bool true) (by simp [rcells])
      exact hX.2.go hX.1)
    clear e1 e2 h1 h2 h3 HS HG
    go_enter Try.func46, Try.ntmps46
    go_wp2
    go_ret
    exact ⟨rfl, HX.out⟩
set_option maxHeartbeats 1000000 in
set_option maxRecDepth 100000 in
theorem rticked (h : RSt w B q s vo vi) (hw : s.wait ≤ 2) (ht : s.tries ≤ 7 ∧ (s.st ≤ 4 → s.tries ≤ 6)) : Calls Try.prog 48 #[.pointer (some ⟨q, 0, none⟩)] w (RRetV w B q vo vi s.tickedS) := by
  have HS := Lib.hid (fun n => Ob2.same h (st_drewN (Below.refl _ w) n))
  have hc := (Ob2.blk h).cell
  have hlt := (Ob2.blk h).lt
  dsimp only [rcells] at hc
  have HG := Lib.hid h
  clear h
  by_cases h1 : s.st < 2
  · have e2 : s.tickedS = s := if_pos (.inl h1)
    rw [e2]
    have d1 : decide (s.st < 2) = true := by simpa using h1
    clear e2 h1
    go_enter Try.func48, Try.ntmps48
    go_wp2
    go_quiet (fail)
    go_wp2
    exact bodyPost_ret (v := .tuple #[]) (by simp [results, Try.results48, go_sem]) rfl ⟨rfl, HS.out _⟩
  have d1 : decide (s.st < 2) = false := by simpa using h1
  by_cases h2 : 4 < s.st
  · have e2 : s.tickedS = s := if_pos (.inr (.inl h2))
    rw [e2]
    have d2 : decide (4 < s.st) = true := by simpa using h2
    clear e2 h1 h2
    go_enter Try.func48, Try.ntmps48
    go_wp2
    go_quiet (fail)
    go_wp2
    exact bodyPost_ret (v := .tuple #[]) (by simp [results, Try.results48, go_sem]) rfl ⟨rfl, HS.out _⟩
  have d2 : decide (4 < s.st) = false := by simpa using h2
  by_cases h3 : s.una = s.nxt
  · have e2 : s.tickedS = s := if_pos (.inr (.inr h3))
    rw [e2]
    have d3 : ((s.una : Int) == s.nxt) = true := by rw [beq_iff_eq]; omega
    clear e2 h1 h2 h3
    go_enter Try.func48, Try.ntmps48
    go_wp2
    go_quiet (fail)
    go_wp2
    exact bodyPost_ret (v := .tuple #[]) (by simp [results, Try.results48, go_sem]) rfl ⟨rfl, HS.out _⟩
  have d3 : ((s.una : Int) == s.nxt) = false := by rw [beq_eq_false_iff_ne]; omega
  have hn : ¬ (s.st < 2 ∨ 4 < s.st ∨ s.una = s.nxt) := by omega
  have HN := Lib.hid hn
  have h6 := ht.2 (by omega)
  have HH := Lib.hid (fun n => Ob2.grow HG.out (st_drewN (Below.refl _ w) n))
  have HA := Lib.hid (fun n => At2.grow (g := q) (vo := vo) (vi := vi) (st_drewN (Below.refl _ w) n))
  clear hn h1 h2 h3 HS
  by_cases h4 : s.wait = 2
  · by_cases h5 : s.tries = 6
    · have e2 : s.tickedS = { s with wait := 0, tries := 7, st := 5 } := (if_neg HN.out).trans ((if_pos h4).trans (if_pos h5))
      rw [e2]
      rw [h4, h5] at hc
      have HX : Hid (∀ n, RSGo w B q vo vi { s with wait := 0, tries := 7, st := 5 } (((((w.drewN n).setCell ⟨q, 13, none⟩ (.int .i64 3)).setCell ⟨q, 13, none⟩ (.int .i64 0)).setCell ⟨q, 14, none⟩ (.int .i64 7)).setCell ⟨q, 0, none⟩ (.int .i64 5))) := Lib.hid (fun n => by
        have a1 := Ob2.set1 (cs' := rcells { s with wait := 3 }) (HH.out n) 13 (.int .i64 3) (by simp [rcells])
        have a2 := Ob2.set1 (cs' := rcells { s with wait := 0 }) a1.1 13 (.int .i64 0) (by simp [rcells])
        have a3 := Ob2.set1 (cs' := rcells { s with wait := 0, tries := 7 }) a2.1 14 (.int .i64 7) (by simp [rcells])
        have a4 := Ob2.set1 (cs' := rcells { s with wait := 0, tries := 7, st := 5 }) a3.1 0 (.int .i64 5) (by simp [rcells])
        exact ((((HA.out n).trans a1.2).trans a2.2).trans (a3.2.trans a4.2)).go a4.1)
      have hf := fun n => (HH.out n).blk.free
      clear e2 h4 h5 HG HH HA
      go_enter Try.func48, Try.ntmps48
      go_wp2
      go_quiet (fail)
      go_wp2
      exact bodyPost_ret (v := .tuple #[]) (by simp [results, Try.results48, go_sem]) rfl ⟨rfl, HX.out _⟩
    · have e2 : s.tickedS = { s with wait := 0, tries := s.tries + 1, nxt := s.una } := (if_neg HN.out).trans ((if_pos h4).trans (if_neg h5))
      rw [e2]
      rw [h4] at hc
      have HX : Hid (∀ n, RSGo w B q vo vi { s with wait := 0, tries := s.tries + 1, nxt := s.una } (((((w.drewN n).setCell ⟨q, 13, none⟩ (.int .i64 3)).setCell ⟨q, 13, none⟩ (.int .i64 0)).setCell ⟨q, 14, none⟩ (.int .i64 ((s.tries : Int) + 1))).setCell ⟨q, 7, none⟩ (.int .i64 s.una))) := Lib.hid (fun n => by
        have a1 := Ob2.set1 (cs' := rcells { s with wait := 3 }) (HH.out n) 13 (.int .i64 3) (by simp [rcells])
        have a2 := Ob2.set1 (cs' := rcells { s with wait := 0 }) a1.1 13 (.int .i64 0) (by simp [rcells])
        have a3 := Ob2.set1 (cs' := rcells { s with wait := 0, tries := s.tries + 1 }) a2.1 14 (.int .i64 ((s.tries : Int) + 1)) (by simp [rcells])
        have a4 := Ob2.set1 (cs' := rcells { s with wait := 0, tries := s.tries + 1, nxt := s.una }) a3.1 7 (.int .i64 s.una) (by simp [rcells])
        exact ((((HA.out n).trans a1.2).trans a2.2).trans (a3.2.trans a4.2)).go a4.1)
      have hf := fun n => (HH.out n).blk.free
      have d5 : decide (6 < (s.tries : Int) + 1) = false := by simp; omega
      clear e2 h4 h5 HG HH HA
      go_enter Try.func48, Try.ntmps48
      go_wp2
      go_quiet (fail)
      go_wp2
      exact bodyPost_ret (v := .tuple #[]) (by simp [results, Try.results48, go_sem]) rfl ⟨rfl, HX.out _⟩
  · have e2 : s.tickedS = { s with wait := s.wait + 1 } := (if_neg HN.out).trans (if_neg h4)
    rw [e2]
    have HX : Hid (∀ n, RSGo w B q vo vi { s with wait := s.wait + 1 } ((w.drewN n).setCell ⟨q, 13, none⟩ (.int .i64 ((s.wait : Int) + 1)))) := Lib.hid (fun n => by
      have a1 := Ob2.set1 (cs' := rcells { s with wait := s.wait + 1 }) (HH.out n) 13 (.int .i64 ((s.wait : Int) + 1)) (by simp [rcells])
      exact ((HA.out n).trans a1.2).go a1.1)
    have hf := fun n => (HH.out n).blk.free
    have d5 : ((s.wait : Int) + 1 == 3) = false := by rw [beq_eq_false_iff_ne]; omega
    clear e2 h4 HG HH HA
    go_enter Try.func48, Try.ntmps48
    go_wp2
    go_quiet (fail)
    go_wp2
    exact bodyPost_ret (v := .tuple #[]) (by simp [results, Try.results48, go_sem]) rfl ⟨rfl, HX.out _⟩
/-- What Told answers. -/
def stToldV (s : Sm) : Value := .tuple #[.int .i64 s.st, .int .i64 ((s.said.length : Int) - s.acked), .int .i64 ((s.got.length : Int) - s.rd), .bool s.fin, .bool s.allB]
set_option maxHeartbeats 1000000 in
set_option maxRecDepth 100000 in
theorem rtold (h : RSt w B q s vo vi) (hm : s.una ≤ 1000000) (hl : s.said.length ≤ 1000000) (hg : s.got.length ≤ 1000000) (hr : s.rd ≤ 1000000) : Calls Try.prog 56 #[.pointer (some ⟨q, 0, none⟩)] w fun e w' => e = .returned (stToldV s) ∧ Below w.heap.size w w' := by
  have HK := Lib.hid (fun w' (hb : Below w.heap.size w w') => racked (Ob2.grow h hb) hm hl)
  obtain ⟨A, c, A', c', rfl, rfl, h1, h2, h3, h4⟩ := h.look
  have HC := Lib.hid (fun w' (hb : Below w.heap.size w w') => (Ob2.grow h hb).blk.cell)
  have hc := (Ob2.blk h).cell
  have hlt := (Ob2.blk h).lt
  dsimp only [rcells] at hc HC
  unfold stToldV
  have hwl : wrap64 ((s.said.length : Int) - s.acked) = (s.said.length : Int) - s.acked := by
    have := s.acked_le
    unfold wrap64; omega
  have HWL := Lib.hid hwl
  clear hwl
  have hall : s.allB = (s.shut && decide (s.una = s.said.length + 2) && decide (s.st = 4)) := rfl
  clear h
  generalize s.acked = ak at *
  generalize s.allB = all at *
  generalize s.said.length = l at *
  generalize s.got.length = lg at *
  have fin : ∀ b, b = all → Calls Try.prog 56 #[.pointer (some ⟨q, 0, none⟩)] w (fun e w' => e = .returned (.tuple #[.int .i64 s.st, .int .i64 ((l : Int) - ak), .int .i64 ((lg : Int) - s.rd), .bool s.fin, .bool b]) ∧ Below w.heap.size w w') → Calls Try.prog 56 #[.pointer (some ⟨q, 0, none⟩)] w (fun e w' => e = .returned (.tuple #[.int .i64 s.st, .int .i64 ((l : Int) - ak), .int .i64 ((lg : Int) - s.rd), .bool s.fin, .bool all]) ∧ Below w.heap.size w w') := fun b hb h => hb ▸ h
  cases hs : s.shut with
  | false =>
    refine fin false (by rw [hall, hs]; rfl) ?_
    rw [hs] at hc HC
    clear fin hall hs
    go_enter Try.func56, Try.ntmps56
    go_wp2
    go_quiet (fail)
    go_wp2
    obtain ⟨WA, hWA⟩ : ∃ WA, WA = w.drewN nq := ⟨_, rfl⟩
    rw [← hWA]
    have hbA : Below w.heap.size w WA := by rw [hWA]; exact st_drewN (Below.refl _ _) _
    have hcA := HC.out WA hbA
    have hlA : q < WA.heap.size := Nat.lt_of_lt_of_le hlt hbA.size
    have HKA := Lib.hid (fun x (hx : Below WA.heap.size WA x) => HK.out x (hbA.trans (hx.mono hbA.size)))
    have HBA := Lib.hid hbA
    clear hWA hbA hc
    refine wp_region_near WA.heap.size (by kernel_rfl) (by kernel_rfl) ?_
    repeat (go_big_quiet_step (first | (go_at_call 94; exact Calls.near_same (HKA.out _ (Near.prop _)))))
    refine wpQuiet_nil ?_
    intro w1 hb1
    have HB1 := Lib.hid (HBA.out.trans (hb1.mono HBA.out.size))
    clear hb1
    go_wp2
    refine bodyPost_ret (results_tmp5 (t := 2) (u := 3) (v := 4) (x := 5) (y := 6) rfl _ _ _) rfl ?_
    exact ⟨told5 HWL.out, HB1.out⟩
  | true =>
    rw [hs] at hc HC
    by_cases hu : s.una = l + 2
    rotate_left
    · refine fin false (by rw [hall, hs, decide_eq_false hu]; rfl) ?_
      have d1 : ((s.una : Int) == (l : Int) + 2) = false := by rw [beq_eq_false_iff_ne]; omega
      clear fin hall hs hu
      go_enter Try.func56, Try.ntmps56
      go_wp2
      go_quiet (fail)
      go_wp2
      obtain ⟨WA, hWA⟩ : ∃ WA, WA = w.drewN nq := ⟨_, rfl⟩
      rw [← hWA]
      have hbA : Below w.heap.size w WA := by rw [hWA]; exact st_drewN (Below.refl _ _) _
      have hcA := HC.out WA hbA
      have hlA : q < WA.heap.size := Nat.lt_of_lt_of_le hlt hbA.size
      have HKA := Lib.hid (fun x (hx : Below WA.heap.size WA x) => HK.out x (hbA.trans (hx.mono hbA.size)))
      have HBA := Lib.hid hbA
      clear hWA hbA hc
      refine wp_region_near WA.heap.size (by kernel_rfl) (by kernel_rfl) ?_
      repeat (go_big_quiet_step (first | (go_at_call 94; exact Calls.near_same (HKA.out _ (Near.prop _)))))
      refine wpQuiet_nil ?_
      intro w1 hb1
      have HB1 := Lib.hid (HBA.out.trans (hb1.mono HBA.out.size))
      clear hb1
      go_wp2
      refine bodyPost_ret (results_tmp5 (t := 2) (u := 3) (v := 4) (x := 5) (y := 6) rfl _ _ _) rfl ?_
      exact ⟨told5 HWL.out, HB1.out⟩
    have d1 : ((s.una : Int) == (l : Int) + 2) = true := by rw [beq_iff_eq]; omega
    by_cases h5 : s.st = 4
    · refine fin true (by rw [hall, hs, decide_eq_true hu, decide_eq_true h5]; rfl) ?_
      have d2 : (s.st == 4) = true := by simpa using h5
      clear fin hall hs hu h5
      go_enter Try.func56, Try.ntmps56
      go_wp2
      go_quiet (fail)
      go_wp2
      obtain ⟨WA, hWA⟩ : ∃ WA, WA = w.drewN nq := ⟨_, rfl⟩
      rw [← hWA]
      have hbA : Below w.heap.size w WA := by rw [hWA]; exact st_drewN (Below.refl _ _) _
      have hcA := HC.out WA hbA
      have hlA : q < WA.heap.size := Nat.lt_of_lt_of_le hlt hbA.size
      have HKA := Lib.hid (fun x (hx : Below WA.heap.size WA x) => HK.out x (hbA.trans (hx.mono hbA.size)))
      have HBA := Lib.hid hbA
      clear hWA hbA hc
      refine wp_region_near WA.heap.size (by kernel_rfl) (by kernel_rfl) ?_
      repeat (go_big_quiet_step (first | (go_at_call 94; exact Calls.near_same (HKA.out _ (Near.prop _)))))
      refine wpQuiet_nil ?_
      intro w1 hb1
      have HB1 := Lib.hid (HBA.out.trans (hb1.mono HBA.out.size))
      clear hb1
      go_wp2
      refine bodyPost_ret (results_tmp5 (t := 2) (u := 3) (v := 4) (x := 5) (y := 6) rfl _ _ _) rfl ?_
      exact ⟨told5 HWL.out, HB1.out⟩
    · refine fin false (by rw [hall, hs, decide_eq_true hu, decide_eq_false h5]; rfl) ?_
      have d2 : (s.st == 4) = false := by simpa using h5
      clear fin hall hs hu h5
      go_enter Try.func56, Try.ntmps56
      go_wp2
      go_quiet (fail)
      go_wp2
      obtain ⟨WA, hWA⟩ : ∃ WA, WA = w.drewN nq := ⟨_, rfl⟩
      rw [← hWA]
      have hbA : Below w.heap.size w WA := by rw [hWA]; exact st_drewN (Below.refl _ _) _
      have hcA := HC.out WA hbA
      have hlA : q < WA.heap.size := Nat.lt_of_lt_of_le hlt hbA.size
      have HKA := Lib.hid (fun x (hx : Below WA.heap.size WA x) => HK.out x (hbA.trans (hx.mono hbA.size)))
      have HBA := Lib.hid hbA
      clear hWA hbA hc
      refine wp_region_near WA.heap.size (by kernel_rfl) (by kernel_rfl) ?_
      repeat (go_big_quiet_step (first | (go_at_call 94; exact Calls.near_same (HKA.out _ (Near.prop _)))))
      refine wpQuiet_nil ?_
      intro w1 hb1
      have HB1 := Lib.hid (HBA.out.trans (hb1.mono HBA.out.size))
      clear hb1
      go_wp2
      refine bodyPost_ret (results_tmp5 (t := 2) (u := 3) (v := 4) (x := 5) (y := 6) rfl _ _ _) rfl ?_
      exact ⟨told5 HWL.out, HB1.out⟩
end
end Go.Proofs.Ythlhjaacjhlkhaa
