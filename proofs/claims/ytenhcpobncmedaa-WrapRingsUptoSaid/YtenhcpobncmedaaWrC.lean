/- Contracts of From and Put of wrap.Ring. -/
import Derived.Test.YtenhcpobncmedaaWrB
namespace Go.Proofs.Ytenhcpobncmedaa
open Go.RowKit
set_option maxHeartbeats 400000
set_option linter.unusedVariables false
set_option linter.unusedSimpArgs false
theorem far_q (a b : Int) (w : World) (ha : U32 a) (hb : U32 b) : Calls Try.prog 82 #[.int .u32 a, .int .u32 b] w fun e w' => e = .returned (.int .i64 (farI a b)) ∧ w' = w := (far82 a b w ha hb).mono fun _ _ ⟨h1, h2⟩ => ⟨h1, h2.symm⟩
set_option maxRecDepth 100000 in
theorem from_none (g : Nat) (vl : Value) (size next n : Int) (L : List Rb) (w : World) (B : Nat) (h : RgSt w B g vl size next L) (hn : U32 next) (hn' : U32 n) (hl : L.length ≤ 64) (hi : farI (lowI next L.length) n < 0 ∨ farI n next < 0) :
    Calls Try.prog 16 #[.pointer (some ⟨g, 0, none⟩), .int .u32 n] w fun e w' => e = .returned (.tuple #[.slice none 0 0, .int .i64 4]) ∧ Below w.heap.size w w' := by
  have HS := Lib.hid (span13 g vl size next L w B h hn hl)
  have HF := Lib.hid (fun m => far82 (lowI next L.length) n (w.drewN m) (lowI_u32 _ _) hn')
  have HF2 := Lib.hid (fun m => far82 n next (w.drewN m) hn' hn)
  clear h
  generalize lowI next L.length = lo at *
  generalize farI lo n = f at *
  generalize farI n next = f2 at *
  by_cases h0 : f < 0
  · have d0 : decide (f < 0) = true := by simpa using h0
    clear h0 hi
    go_enter Try.func16, Try.ntmps16
    go_wp2_with fail
    refine HS.out.mono ?_
    rintro e w' ⟨rfl, m, rfl⟩
    go_wp2_with fail
    refine (HF.out m).mono ?_
    rintro e w' ⟨rfl, rfl⟩
    go_wp2
    go_ret2
    exact ⟨rfl, sl_below_drewN (Below.refl _ _) _⟩
  · have d0 : decide (f < 0) = false := by simpa using h0
    have d1 : decide (f2 < 0) = true := by simp; omega
    clear h0 hi
    go_enter Try.func16, Try.ntmps16
    go_wp2_with fail
    refine HS.out.mono ?_
    rintro e w' ⟨rfl, m, rfl⟩
    go_wp2_with fail
    refine (HF.out m).mono ?_
    rintro e w' ⟨rfl, rfl⟩
    go_wp2_with fail
    refine (HF2.out m).mono ?_
    rintro e w' ⟨rfl, rfl⟩
    go_wp2
    go_ret2
    exact ⟨rfl, sl_below_drewN (Below.refl _ _) _⟩
theorem rb_oneCell (rs : List Rb) : ∀ u ∈ rs.map Rb.val, u.oneCell' = true := by
  intro u hu
  obtain ⟨x, _, rfl⟩ := List.mem_map.1 hu
  rfl
def FromPost (w : World) (ys : List (List Int)) (e : Ending) (w' : World) : Prop := ∃ A' c' L', e = .returned (.tuple #[.slice A' ys.length c', .int .i64 0]) ∧ RRb w' w'.heap.size A' ys.length L' ∧ L'.map Rb.xs = ys ∧ Below w.heap.size w w'
theorem drop_at {α : Type} {l : List α} {k j : Nat} {r : α} (h : (l.drop k)[j]? = some r) : (l.drop k).take (j + 1) = (l.drop k).take j ++ [r] := by
  obtain ⟨hj, rfl⟩ := List.getElem?_eq_some_iff.1 h
  exact List.take_succ_eq_append_getElem hj
set_option maxHeartbeats 1000000 in
set_option maxRecDepth 100000 in
theorem from_some (g : Nat) (vl : Value) (size next n : Int) (L : List Rb) (w : World) (B k : Nat) (h : RgSt w B g vl size next L) (hn : U32 next) (hn' : U32 n) (hl : L.length ≤ 64) (hi : farI (lowI next L.length) n = k) (hk : k ≤ L.length) (h2 : 0 ≤ farI n next) (hs : ∀ r ∈ L, r.n ≤ 1000) :
    Calls Try.prog 16 #[.pointer (some ⟨g, 0, none⟩), .int .u32 n] w (FromPost w ((L.drop k).map Rb.xs)) := by
  obtain ⟨i0, hi9, hz0, hz1, hz2⟩ := info_parts infoBs
  obtain ⟨A, c, hv, hrr, hlc, hc9⟩ := h.rr
  have HS := Lib.hid (span13 g vl size next L w B h hn hl)
  have HF := Lib.hid (fun W => far82 (lowI next L.length) n W (lowI_u32 _ _) hn')
  have HFQ := Lib.hid (fun W => far_q (lowI next L.length) n W (lowI_u32 _ _) hn')
  rw [hi] at HF HFQ
  have HF2 := Lib.hid (fun W => far82 n next W hn' hn)
  have d2 : decide (farI n next < 0) = false := by simpa using h2
  have hc := h.blk.cell
  have hlt := h.blk.lt
  rw [hv] at hc
  have hrow := h.row
  rw [hv] at hrow
  have hcut := hrow.cut (k := k) hk
  rw [Nat.mul_one, ← List.map_drop] at hcut
  obtain ⟨A1, hA1⟩ : ∃ A1, (if c = k then A else A.map (·.add k)) = A1 := ⟨_, rfl⟩
  rw [hA1] at hcut
  have hRD : RRb w w.heap.size A1 (L.length - k) (L.drop k) := ⟨hcut.reads, fun r hr => (h.ent r (List.mem_of_mem_drop hr)).fine⟩
  have HRD := Lib.hid hRD
  have HSZ : Hid (∀ r ∈ L.drop k, r.n ≤ 1000) := Lib.hid (fun r hr => hs r (List.mem_of_mem_drop hr))
  have HLD : Hid ((L.drop k).length = L.length - k) := Lib.hid (by simp)
  have d0 : decide ((k : Int) < 0) = false := by simp
  have hk0 : (0 : Int) ≤ k := by omega
  have hkl : (k : Int) ≤ L.length := by omega
  have hkc : (k : Int) ≤ c := by omega
  have hkc' : k ≤ c := by omega
  clear h hv hrr hrow hcut hRD hs hi h2
  generalize farI n next = f2 at *
  generalize lowI next L.length = lo at *
  generalize L.drop k = D at *
  generalize L.length = l at *
  by_cases hck : c = k
  · rw [if_pos hck] at hA1
    go_enter Try.func16, Try.ntmps16
    go_wp2_with fail
    refine HS.out.mono ?_
    rintro e w' ⟨rfl, m, hw⟩
    have hbw' : Below w.heap.size w w' := by rw [hw]; exact sl_below_drewN (Below.refl _ _) _
    have hc' := fun j => (hbw'.cell (p := ⟨g, j, none⟩) hlt).trans (hc j)
    have hlt' : g < w'.heap.size := Nat.lt_of_lt_of_le hlt hbw'.size
    clear hw
    go_wp2_with fail
    refine (HF.out _).mono ?_
    rintro e w'' ⟨rfl, rfl⟩
    go_wp2_with fail
    refine (HF2.out _).mono ?_
    rintro e w'' ⟨rfl, rfl⟩
    go_wp2_with fail
    refine wp_region_quiet_lit (by kernel_rfl) (by kernel_rfl) ?_
    repeat (go_big_quiet_step (first | (go_at_call 82; exact Calls.quiet_of_same (HFQ.out _))))
    refine wpQuiet_nil ?_
    intro _ hw'
    obtain ⟨nq, hw''⟩ := hw'
    subst hw''
    subst hA1
    go_wp2
    go_loopw [8, 35] (fun v i wr => ∃ (j : Nat) (L' : List Rb), j ≤ l - k ∧ i = .int .i64 j ∧ Row wr w.heap.size 30 1 v L'.length (L'.map Rb.val) ∧ Hid (L'.length = j) ∧ (∀ r ∈ L', r.own wr w.heap.size) ∧ Hid (L'.map Rb.xs = (D.take j).map Rb.xs) ∧ Below w.heap.size w wr) (fun _ i _ => (l - k) - (intOf i).toNat)
    case atStart => exact ⟨0, [], by omega, rfl, Row.nil _ _ _ _, Lib.hid rfl, fun r hr => by simp at hr, Lib.hid (by simp), sl_below_drewN hbw' _⟩
    case round =>
      obtain ⟨j, L', hj, rfl, hr, hLj, hent, hmap, hbw⟩ := hrel
      have hsz := hbw.size
      have hjl : ¬ j < l - k := by omega
      obtain rfl : j = l - k := by omega
      obtain ⟨A6, c6, hv6, hc61, hc62⟩ := hr.shape
      subst hv6
      have hfin : Hid (FromPost w (D.map Rb.xs) (.returned (.tuple #[.slice A6 L'.length c6, .int .i64 0])) wr) := Lib.hid (by
        have e1 : D.take (l - k) = D := List.take_of_length_le (by rw [HLD.out]; exact Nat.le_refl _)
        have e2 : L'.length = (D.map Rb.xs).length := by rw [hLj.out, List.length_map, HLD.out]
        refine ⟨A6, c6, L', by rw [e2], ?_, by rw [hmap.out, e1], hbw⟩
        rw [← e2]
        exact ⟨hr.reads, fun r hr' => (hent r hr').fine⟩)
      clear hr hent hbw
      generalize L'.length = l9 at *
      go_wp2
      go_ret2
      exact hfin.out
  · rw [if_neg hck] at hA1
    go_enter Try.func16, Try.ntmps16
    go_wp2_with fail
    refine HS.out.mono ?_
    rintro e w' ⟨rfl, m, hw⟩
    have hbw' : Below w.heap.size w w' := by rw [hw]; exact sl_below_drewN (Below.refl _ _) _
    have hc' := fun j => (hbw'.cell (p := ⟨g, j, none⟩) hlt).trans (hc j)
    have hlt' : g < w'.heap.size := Nat.lt_of_lt_of_le hlt hbw'.size
    clear hw
    go_wp2_with fail
    refine (HF.out _).mono ?_
    rintro e w'' ⟨rfl, rfl⟩
    go_wp2_with fail
    refine (HF2.out _).mono ?_
    rintro e w'' ⟨rfl, rfl⟩
    go_wp2_with fail
    refine wp_region_quiet_lit (by kernel_rfl) (by kernel_rfl) ?_
    repeat (go_big_quiet_step (first | (go_at_call 82; exact Calls.quiet_of_same (HFQ.out _))))
    refine wpQuiet_nil ?_
    intro _ hw'
    obtain ⟨nq, hw''⟩ := hw'
    subst hw''
    clear hA1
    go_wp2
    go_loopw [8, 35] (fun v i wr => ∃ (j : Nat) (L' : List Rb), j ≤ l - k ∧ i = .int .i64 j ∧ Row wr w.heap.size 30 1 v L'.length (L'.map Rb.val) ∧ Hid (L'.length = j) ∧ (∀ r ∈ L', r.own wr w.heap.size) ∧ Hid (L'.map Rb.xs = (D.take j).map Rb.xs) ∧ Below w.heap.size w wr) (fun _ i _ => (l - k) - (intOf i).toNat)
    case atStart => exact ⟨0, [], by omega, rfl, Row.nil _ _ _ _, Lib.hid rfl, fun r hr => by simp at hr, Lib.hid (by simp), sl_below_drewN hbw' _⟩
    case round =>
      obtain ⟨j, L', hj, rfl, hr, hLj, hent, hmap, hbw⟩ := hrel
      have hsz := hbw.size
      by_cases hjl : j < l - k
      rotate_left
      · obtain rfl : j = l - k := by omega
        obtain ⟨A6, c6, hv6, hc61, hc62⟩ := hr.shape
        subst hv6
        have hfin : Hid (FromPost w (D.map Rb.xs) (.returned (.tuple #[.slice A6 L'.length c6, .int .i64 0])) wr) := Lib.hid (by
          have e1 : D.take (l - k) = D := List.take_of_length_le (by rw [HLD.out]; exact Nat.le_refl _)
          have e2 : L'.length = (D.map Rb.xs).length := by rw [hLj.out, List.length_map, HLD.out]
          refine ⟨A6, c6, L', by rw [e2], ?_, by rw [hmap.out, e1], hbw⟩
          rw [← e2]
          exact ⟨hr.reads, fun r hr' => (hent r hr').fine⟩)
        clear hr hent hbw
        generalize L'.length = l9 at *
        go_wp2
        go_ret2
        exact hfin.out
      · obtain ⟨b, o, r, rfl, hb, hr', hf, hcell⟩ := (HRD.out.below' hbw (Nat.le_refl _)).at_ hjl
        have hrs := HSZ.out r (List.mem_of_getElem? hr')
        have hbyt := hf.1.2
        have HC := Lib.hid (clone80 r.A r.n r.c r.xs wr _ hf.1.1 hsz (by omega))
        have HT : Hid ((D.take (j + 1)).map Rb.xs = (D.take j).map Rb.xs ++ [r.xs]) := Lib.hid (by
          obtain ⟨hjD, e⟩ := List.getElem?_eq_some_iff.1 hr'
          rw [List.take_succ_eq_append_getElem hjD, List.map_append, e]; rfl)
        obtain ⟨A6, c6, hv6, hc61, hc62⟩ := hr.shape
        subst hv6
        have HR := Lib.hid hr
        have HEN := Lib.hid hent
        have HBW := Lib.hid hbw
        have hLL : L'.length ≤ 64 := by have := hLj.out; omega
        have hji : (j : Int) < ((l - k : Nat) : Int) := by omega
        clear hr hent hbw hf hr'
        go_wp2_with fail
        refine HC.out.mono ?_
        rintro e w6 ⟨A', c', rfl, hr6, hb6⟩
        have hrow6 := HR.out.grow hb6
        have hbw6 := HBW.out.trans (hb6.mono HBW.out.size)
        have hob := hrow6.lt
        have hb6s := hb6.size
        have HAP := Lib.hid (fun A8 c8 w8 (hr8 : Row w8 w.heap.size 30 1 (.slice A8 (L'.length + 1) c8) (L'.length + 1) (L'.map Rb.val ++ [.slice A' r.n c'])) => (show Row w8 w.heap.size 30 1 (.slice A8 (L'.length + 1) c8) (L' ++ [(⟨A', r.n, c', r.xs⟩ : Rb)]).length ((L' ++ [(⟨A', r.n, c', r.xs⟩ : Rb)]).map Rb.val) by
          rw [List.length_append, List.map_append]; exact hr8))
        generalize hol0 : L'.length = ol at *
        have hol := Lib.hid hol0
        clear hol0
        generalize L'.map Rb.val = oc at *
        go_wp2_with (at_builtin; refine wpList_append_row _ rfl (.tmp 39) (.tmp 42) 23 rfl w.heap.size 30 i0 (.slice none 0 0) 1 24 Try.underlying23 hi9 hz0 hz1 hz2 rfl (by decide) (.slice A6 ol c6) ol oc rfl (hrow6.alloc _) (w6.heap.size + 1) (some ⟨w6.heap.size, 0, none⟩) 1 1 [.slice A' r.n c'] rfl (reads_one w6 (.slice A' r.n c') 30) (by simp [Value.oneCell']) (by unfold maxLen; omega) (by omega) (by simp; have := hbw6.size; omega) ?_)
        intro A8 c8 w8 hr8 hg8 ho8
        have hf8 : Fr (fun k => (Value.slice A6 ol c6).ownBlock = some k) w6 w8 := ((Fr.refl _ w6).alloc _).grown hg8 (fun k e _ => e)
        have HENT : Hid (∀ q ∈ L' ++ [(⟨A', r.n, c', r.xs⟩ : Rb)], q.own w8 w.heap.size) := Lib.hid (fun q hq => by
          rcases List.mem_append.1 hq with hq | hq
          · have h9 := (HEN.out q hq)
            have h6 := h9.1.grow hb6
            exact ⟨h6.fr hf8 (fun k hk hk' => wr_row_row h6 hrow6 (by decide) k hk hk'), h9.2⟩
          · obtain rfl : q = ⟨A', r.n, c', r.xs⟩ := by simpa using hq
            have h6 := hr6.base_le hsz
            exact ⟨h6.fr hf8 (fun k hk hk' => wr_row_row h6 hrow6 (by decide) k hk hk'), hbyt⟩)
        have HB8 : Hid (Below w.heap.size w w8) := Lib.hid (hbw6.trans (hf8.below hbw6.size (fun k hk => (hob k hk).1)))
        have hr9 := HAP.out A8 c8 w8 hr8
        clear hr8 hg8 ho8 hf8 hrow6 hr6 hb6 hbw6
        go_wp2
        go_roundw
        case rel => exact ⟨j + 1, L' ++ [⟨A', r.n, c', r.xs⟩], by omega, by go_num, hr9, Lib.hid (by rw [List.length_append, hol.out, hLj.out]; rfl), HENT.out, Lib.hid (by rw [HT.out, List.map_append, hmap.out]; rfl), HB8.out⟩
        case measure => simp [intOf]; omega
end Go.Proofs.Ytenhcpobncmedaa
